/- The inner layer: the first operation that reads otherwise than it must, walked. -/
import Derived.Test.YticpadjheelipaaOf
import Derived.Test.YticpadjheelipaaBehind
import Derived.Test.YticpadjheelipaaRightV
import Derived.Test.YticpadjheelipaaSimple
import Derived.Test.YticpadjheelipaaCheckP
import Derived.Lib.Hide
namespace Go.Proofs.Yticpadjheelipaa
open Go.RowKit
set_option linter.all false
set_option maxRecDepth 10000

set_option maxHeartbeats 4000000 in
theorem check_spec {E : World} {s : SH} {L : List HP} {w : World} {v : Value} {xs : List Op'} (B : Nat) (hB : ∀ o ∈ xs, o.list.length ≤ B) (hn : (∀ o ∈ xs, o.kind ≠ 1) ∨ (B + xs.length + 1) * 8 ≤ 140737488355328) (hv : kOp.Sl s v xs) (H : Holds E s L w) :
    Calls Try.prog 13 #[v] w fun e w' => e = .returned (.int .i64 (checkV (fun _ => view0) 0 xs)) ∧ Holds E s L w' := by
  have hv0 := hv
  obtain ⟨A, cap, rfl, h1, h2, -⟩ := hv
  have h2' : xs.length * 64 ≤ 140737488355328 := h2
  clear h2
  go_enter Try.func13, Try.ntmps13
  refine wp_seq ?_
  refine wp_region_lit ?_
  apply seq_op rfl
  · intro Φ hΦ; go_simp; exact hΦ
  (try simp only [Act.put, List.setIfInBounds_toArray, List.set_cons_succ, List.set_cons_zero])
  refine list_end ?_
  refine then_norm ?_
  refine wp_seq ?_
  refine wp_region_lit ?_
  refine OpG.list rfl ?_; refine G_makeMap (κ := Thing) (enc := encT) 71 rfl H ?_; clear H; intro r8 w1 H
  (try simp only [Act.put, List.setIfInBounds_toArray, List.set_cons_succ, List.set_cons_zero])
  apply seq_op rfl
  · intro Φ hΦ; go_simp; exact hΦ
  (try simp only [Act.put, List.setIfInBounds_toArray, List.set_cons_succ, List.set_cons_zero])
  refine list_end ?_
  refine then_norm ?_
  refine wp_seq ?_
  refine wp_seq ?_
  refine wp_region_lit ?_
  apply seq_op rfl
  · intro Φ hΦ; go_simp; exact hΦ
  (try simp only [Act.put, List.setIfInBounds_toArray, List.set_cons_succ, List.set_cons_zero])
  apply seq_op rfl
  · intro Φ hΦ; go_simp; exact hΦ
  (try simp only [Act.put, List.setIfInBounds_toArray, List.set_cons_succ, List.set_cons_zero])
  apply seq_op rfl
  · intro Φ hΦ; go_simp; exact hΦ
  (try simp only [Act.put, List.setIfInBounds_toArray, List.set_cons_succ, List.set_cons_zero])
  refine list_end ?_
  refine then_norm ?_
  refine wp_block ?_
  refine wp_loopF [none, none, some 2, none, some 4, some 5, some 6, some 7, none, none, none, some 11, some 12, some 13, some 14, some 15, some 16, some 17, some 18, some 19, some 20, some 21, some 22, some 23, some 24, some 25, some 26, some 27, some 28, some 29, some 30, some 31, some 32, some 33, some 34, some 35, some 36, some 37, some 38, some 39, some 40, some 41] rfl (by simp) (fun f w => ∃ k : Nat, ∃ fv : Thing → View, ∃ l : List (Thing × Value), ∃ s', k ≤ xs.length ∧ f 11 = .int .i64 k ∧ checkV fv k (xs.drop k) = checkV (fun _ => view0) 0 xs ∧ (∀ t, (fv t).list.length ≤ B + k ∨ (∀ o ∈ xs, o.kind ≠ 1)) ∧ Sub s s' ∧ ViewsAt s' fv l ∧ Holds E s' (mpP encT r8 l :: L) w) (fun f w => xs.length - (intOf (f 11)).toNat) ?_ ?_
  · skip
    exact ⟨0, fun _ => view0, [], s, Nat.zero_le _, rfl, by rw [List.drop_zero]; rfl, fun t => .inl (Nat.zero_le _), Sub.refl s, ViewsAt.nil, H⟩
  · intro f w hI
    clear H
    obtain ⟨k, fv, l, s1, hk, h11, hR, hlen, hs1, hVA, H⟩ := hI
    have HR := Lib.hid hR
    clear hR
    simp only [ovm, mixM]
    simp only [h11]
    clear h11
    refine wp_seq ?_
    refine wp_region_lit ?_
    apply seq_op rfl
    · intro Φ hΦ; go_simp; exact hΦ
    (try simp only [Act.put, List.setIfInBounds_toArray, List.set_cons_succ, List.set_cons_zero])
    refine list_end ?_
    refine then_norm ?_
    refine wp_seq ?_
    refine wp_cond_split rfl (fun hc => ?_) (fun hc => ?_)
    · skip
      refine wp_skip ?_
      refine then_norm ?_
      refine wp_seq ?_
      refine wp_block ?_
      refine wp_seq ?_
      have hlt : k < xs.length := by simpa using hc
      obtain ⟨b, off, o, Al, cl, rfl, hdr0, hmem, hC, hol, hkind, hkey, hval⟩ := elemOp (hv0.mono hs1) k hlt
      have hdr := Lib.hid hdr0
      clear hdr0
      have hok : okT (thingOf o) := Nat.le_trans hkey (by unfold maxLen; omega)
      refine wp_region_lit ?_
      apply seq_op rfl
      · intro Φ hΦ; go_simp; exact hΦ
      (try simp only [Act.put, List.setIfInBounds_toArray, List.set_cons_succ, List.set_cons_zero])
      apply seq_op rfl
      · intro Φ hΦ; go_simp; exact hΦ
      (try simp only [Act.put, List.setIfInBounds_toArray, List.set_cons_succ, List.set_cons_zero])
      apply seq_op rfl
      · intro Φ hΦ; first | (refine L_1 0 _ _ rfl (Try.isAgg25 _) rfl H rfl rfl ?_; exact hΦ) | (refine L_1 1 _ _ rfl (Try.isAgg25 _) rfl H rfl rfl ?_; exact hΦ) | (refine L_1 2 _ _ rfl (Try.isAgg25 _) rfl H rfl rfl ?_; exact hΦ) | (refine L_1 3 _ _ rfl (Try.isAgg25 _) rfl H rfl rfl ?_; exact hΦ) | (refine G_pNi 0 _ _ rfl (Try.isAgg25 _) rfl H rfl (Try.sizeOf25 _) ?_; exact hΦ) | (refine G_pNi 1 _ _ rfl (Try.isAgg25 _) rfl H rfl (Try.sizeOf25 _) ?_; exact hΦ) | (refine G_pNi 2 _ _ rfl (Try.isAgg25 _) rfl H rfl (Try.sizeOf25 _) ?_; exact hΦ) | (refine G_pNi 3 _ _ rfl (Try.isAgg25 _) rfl H rfl (Try.sizeOf25 _) ?_; exact hΦ) | (refine G_s1 _ _ rfl (Try.isAgg25 _) rfl H hC 0 rfl rfl ?_; exact hΦ) | (refine G_s1 _ _ rfl (Try.isAgg25 _) rfl H hC _ rfl rfl ?_; exact hΦ) | (refine G_sN _ _ rfl (Try.isAgg25 _) rfl H hC (Try.sizeOf25 _) ?_; exact hΦ)
      (try simp only [Act.put, List.setIfInBounds_toArray, List.set_cons_succ, List.set_cons_zero])
      refine OpG.list rfl ?_; refine G_alloc 25 rfl (Try.zeroValue25 _) H ?_; clear H; intro b5 w1 H; (try simp only [Value.cells] at H)
      (try simp only [Act.put, List.setIfInBounds_toArray, List.set_cons_succ, List.set_cons_zero])
      apply seq_op rfl
      · intro Φ hΦ; go_simp; exact hΦ
      (try simp only [Act.put, List.setIfInBounds_toArray, List.set_cons_succ, List.set_cons_zero])
      refine OpG.list rfl ?_; first | (refine S_1 0 _ _ _ rfl (Try.sizeOf25 _) rfl rfl H rfl ?_ ?_ ?_; (focus (first | (simp [Value.oneCell']; done) | assumption)); (focus (simp; done))) | (refine G_setNi 0 _ _ _ rfl (Try.sizeOf25 _) rfl rfl ?_ H rfl rfl ?_; (focus (first | (simp [Value.oneCell']; done) | assumption))) | (refine S_1 1 _ _ _ rfl (Try.sizeOf25 _) rfl rfl H rfl ?_ ?_ ?_; (focus (first | (simp [Value.oneCell']; done) | assumption)); (focus (simp; done))) | (refine G_setNi 1 _ _ _ rfl (Try.sizeOf25 _) rfl rfl ?_ H rfl rfl ?_; (focus (first | (simp [Value.oneCell']; done) | assumption))) | (refine S_1 2 _ _ _ rfl (Try.sizeOf25 _) rfl rfl H rfl ?_ ?_ ?_; (focus (first | (simp [Value.oneCell']; done) | assumption)); (focus (simp; done))) | (refine G_setNi 2 _ _ _ rfl (Try.sizeOf25 _) rfl rfl ?_ H rfl rfl ?_; (focus (first | (simp [Value.oneCell']; done) | assumption))) | (refine S_1 3 _ _ _ rfl (Try.sizeOf25 _) rfl rfl H rfl ?_ ?_ ?_; (focus (first | (simp [Value.oneCell']; done) | assumption)); (focus (simp; done))) | (refine G_setNi 3 _ _ _ rfl (Try.sizeOf25 _) rfl rfl ?_ H rfl rfl ?_; (focus (first | (simp [Value.oneCell']; done) | assumption)))
      clear H; intro w1 H; simp only [List.set_cons_succ, List.set_cons_zero] at H
      refine list_end ?_
      refine then_norm ?_
      refine wp_seq ?_
      refine wp_region_lit ?_
      apply seq_op rfl
      · intro Φ hΦ; first | (refine L_1 0 _ _ rfl (Try.isAgg25 _) rfl H rfl rfl ?_; exact hΦ) | (refine L_1 1 _ _ rfl (Try.isAgg25 _) rfl H rfl rfl ?_; exact hΦ) | (refine L_1 2 _ _ rfl (Try.isAgg25 _) rfl H rfl rfl ?_; exact hΦ) | (refine L_1 3 _ _ rfl (Try.isAgg25 _) rfl H rfl rfl ?_; exact hΦ) | (refine G_pNi 0 _ _ rfl (Try.isAgg25 _) rfl H rfl (Try.sizeOf25 _) ?_; exact hΦ) | (refine G_pNi 1 _ _ rfl (Try.isAgg25 _) rfl H rfl (Try.sizeOf25 _) ?_; exact hΦ) | (refine G_pNi 2 _ _ rfl (Try.isAgg25 _) rfl H rfl (Try.sizeOf25 _) ?_; exact hΦ) | (refine G_pNi 3 _ _ rfl (Try.isAgg25 _) rfl H rfl (Try.sizeOf25 _) ?_; exact hΦ) | (refine G_s1 _ _ rfl (Try.isAgg25 _) rfl H hC 0 rfl rfl ?_; exact hΦ) | (refine G_s1 _ _ rfl (Try.isAgg25 _) rfl H hC _ rfl rfl ?_; exact hΦ) | (refine G_sN _ _ rfl (Try.isAgg25 _) rfl H hC (Try.sizeOf25 _) ?_; exact hΦ)
      (try simp only [Act.put, List.setIfInBounds_toArray, List.set_cons_succ, List.set_cons_zero])
      refine seq_call rfl (fun Φ hΦ => by go_simp; (try exact hΦ)) (of_spec o _ H) ?_
      clear H; rintro e w1 ⟨rfl, H⟩; refine ⟨_, rfl, ?_⟩
      (try simp only [Act.put, List.setIfInBounds_toArray, List.set_cons_succ, List.set_cons_zero])
      apply seq_op rfl
      · intro Φ hΦ; go_simp; exact hΦ
      (try simp only [Act.put, List.setIfInBounds_toArray, List.set_cons_succ, List.set_cons_zero])
      apply seq_op rfl
      · intro Φ hΦ; go_simp; exact hΦ
      (try simp only [Act.put, List.setIfInBounds_toArray, List.set_cons_succ, List.set_cons_zero])
      apply seq_op rfl
      · intro Φ hΦ; go_simp; exact hΦ
      (try simp only [Act.put, List.setIfInBounds_toArray, List.set_cons_succ, List.set_cons_zero])
      refine OpG.list rfl ?_; refine G_alloc 73 rfl (Try.zeroValue73 _) H ?_; clear H; intro b6 w1 H; (try simp only [Value.cells] at H)
      (try simp only [Act.put, List.setIfInBounds_toArray, List.set_cons_succ, List.set_cons_zero])
      refine OpG.list rfl ?_; first | (refine S_1 0 _ _ _ rfl (Try.sizeOf73 _) rfl rfl H rfl ?_ ?_ ?_; (focus (first | (simp [Value.oneCell']; done) | assumption)); (focus (simp; done))) | (refine G_setNi 0 _ _ _ rfl (Try.sizeOf73 _) rfl rfl ?_ H rfl rfl ?_; (focus (first | (simp [Value.oneCell']; done) | assumption))) | (refine S_1 1 _ _ _ rfl (Try.sizeOf73 _) rfl rfl H rfl ?_ ?_ ?_; (focus (first | (simp [Value.oneCell']; done) | assumption)); (focus (simp; done))) | (refine G_setNi 1 _ _ _ rfl (Try.sizeOf73 _) rfl rfl ?_ H rfl rfl ?_; (focus (first | (simp [Value.oneCell']; done) | assumption))) | (refine S_1 2 _ _ _ rfl (Try.sizeOf73 _) rfl rfl H rfl ?_ ?_ ?_; (focus (first | (simp [Value.oneCell']; done) | assumption)); (focus (simp; done))) | (refine G_setNi 2 _ _ _ rfl (Try.sizeOf73 _) rfl rfl ?_ H rfl rfl ?_; (focus (first | (simp [Value.oneCell']; done) | assumption))) | (refine S_1 3 _ _ _ rfl (Try.sizeOf73 _) rfl rfl H rfl ?_ ?_ ?_; (focus (first | (simp [Value.oneCell']; done) | assumption)); (focus (simp; done))) | (refine G_setNi 3 _ _ _ rfl (Try.sizeOf73 _) rfl rfl ?_ H rfl rfl ?_; (focus (first | (simp [Value.oneCell']; done) | assumption)))
      clear H; intro w1 H; simp only [List.set_cons_succ, List.set_cons_zero] at H
      apply seq_op rfl
      · intro Φ hΦ; go_simp; exact hΦ
      (try simp only [Act.put, List.setIfInBounds_toArray, List.set_cons_succ, List.set_cons_zero])
      refine list_end ?_
      refine then_norm ?_
      refine wp_seq ?_
      refine wp_seq ?_
      refine wp_region_lit ?_
      apply seq_op rfl
      · intro Φ hΦ; go_simp; exact hΦ
      (try simp only [Act.put, List.setIfInBounds_toArray, List.set_cons_succ, List.set_cons_zero])
      apply seq_op rfl
      · intro Φ hΦ; go_simp; exact hΦ
      (try simp only [Act.put, List.setIfInBounds_toArray, List.set_cons_succ, List.set_cons_zero])
      refine list_end ?_
      refine then_norm ?_
      refine wp_cond_split rfl (fun hc => ?_) (fun hc => ?_)
      · skip
        refine wp_exit ?_
        refine then_exit ?_
        refine block_exit ?_
        refine then_norm ?_
        have hw := i64w (n := (k : Int) + 1) (by omega) (by omega)
        refine wp_region_lit ?_
        apply seq_op rfl
        · intro Φ hΦ; go_simp; exact hΦ
        (try simp only [Act.put, List.setIfInBounds_toArray, List.set_cons_succ, List.set_cons_zero])
        apply seq_op rfl
        · intro Φ hΦ; go_simp; exact hΦ
        (try simp only [Act.put, List.setIfInBounds_toArray, List.set_cons_succ, List.set_cons_zero])
        refine list_end ?_
        refine then_norm ?_
        refine ⟨⟨⟨rfl, rfl, rfl, rfl, rfl, rfl, rfl⟩, rfl⟩, ?_, by simp [intOf]; omega⟩
        exact ⟨k + 1, fv, l, s1, by omega, by go_num, by rw [← HR.out, hdr.out, checkV_skip hc]; rfl, fun t => (hlen t).imp (fun h => by omega) id, hs1, hVA, H.drop.drop⟩
      · skip
        have hof : isOf o = true := by simpa using hc
        refine wp_skip ?_
        refine then_norm ?_
        refine wp_seq ?_
        refine wp_seq ?_
        obtain ⟨vl, hlk0, hsl2⟩ := hVA.get (thingOf o)
        obtain ⟨Av, cv, rfl, -⟩ := id hsl2
        have hlk := Lib.hid hlk0
        clear hlk0
        refine wp_draw_obO (k := 10) (sz := 42) (List.replicate 10 10) (fun _ => []) mixed (by simp) rfl (by kernel_rfl) (by kernel_rfl) (by kernel_rfl) H (by simp only [List.take_succ_cons, List.take_zero]; exact rfl) (by simp only [List.drop_succ_cons, List.drop_zero]; exact rfl)
          (fun y => by simp only [ov, Act.put, List.setIfInBounds_toArray, List.set_cons_succ, List.set_cons_zero, Nat.zero_add, Nat.reduceAdd]; exact rfl) ?_
        apply ObO.valw
        · intro x; rfl
        · intro s' w' y Φ R hs H hG hΦ; skip; refine wantG rfl ?_; first | (refine L_1 0 _ _ rfl (Try.isAgg25 _) rfl H rfl rfl ?_; exact hΦ _ _ (Sub.refl _) H) | (refine L_1 1 _ _ rfl (Try.isAgg25 _) rfl H rfl rfl ?_; exact hΦ _ _ (Sub.refl _) H) | (refine L_1 2 _ _ rfl (Try.isAgg25 _) rfl H rfl rfl ?_; exact hΦ _ _ (Sub.refl _) H) | (refine L_1 3 _ _ rfl (Try.isAgg25 _) rfl H rfl rfl ?_; exact hΦ _ _ (Sub.refl _) H) | (refine G_pNi 0 _ _ rfl (Try.isAgg25 _) rfl H rfl (Try.sizeOf25 _) ?_; exact hΦ _ _ (Sub.refl _) H) | (refine G_pNi 1 _ _ rfl (Try.isAgg25 _) rfl H rfl (Try.sizeOf25 _) ?_; exact hΦ _ _ (Sub.refl _) H) | (refine G_pNi 2 _ _ rfl (Try.isAgg25 _) rfl H rfl (Try.sizeOf25 _) ?_; exact hΦ _ _ (Sub.refl _) H) | (refine G_pNi 3 _ _ rfl (Try.isAgg25 _) rfl H rfl (Try.sizeOf25 _) ?_; exact hΦ _ _ (Sub.refl _) H) | (refine G_s1 _ _ rfl (Try.isAgg25 _) rfl H (hC.mono hs) 0 rfl rfl ?_; exact hΦ _ _ (Sub.refl _) H) | (refine G_s1 _ _ rfl (Try.isAgg25 _) rfl H (hC.mono hs) _ rfl rfl ?_; exact hΦ _ _ (Sub.refl _) H) | (refine G_sN _ _ rfl (Try.isAgg25 _) rfl H (hC.mono hs) (Try.sizeOf25 _) ?_; exact hΦ _ _ (Sub.refl _) H)
        apply ObO.valw
        · intro x; rfl
        · intro s' w' y Φ R hs H hG hΦ; simp only [List.nil_append, List.cons_append] at hG; have e0 : y 0 = _ := dh_get hG 0 rfl (by kernel_rfl); simp only [e0]; refine wantG rfl ?_; (go_simp; refine (reads_any H).mono ?_; rintro e w2 ⟨rfl, H⟩; exact ⟨_, rfl, hΦ _ _ (Sub.refl _) H⟩)
        apply ObO.valw
        · intro x; rfl
        · intro s' w' y Φ R hs H hG hΦ; simp only [List.nil_append, List.cons_append] at hG; have e1 : y 1 = _ := dh_get hG 1 rfl (by kernel_rfl); simp only [e1]; refine wantG rfl ?_; (go_simp; exact hΦ _ _ (Sub.refl _) H)
        apply ObO.valg
        · intro x; rfl
        · intro s' y hG; simp only [List.nil_append, List.cons_append] at hG; have eg : y 2 = _ := dh_get hG 2 rfl (by kernel_rfl); simp only [eg]; first | exact wanted_t rfl rfl rfl | exact wanted_vt rfl rfl rfl
        · intro hc s' w' y Φ R hs H hG hΦ; have HC := Lib.hid hc; clear hc; skip; (go_simp; exact hΦ _ _ (Sub.refl _) H)
        apply ObO.valg
        · intro x; rfl
        · intro s' y hG; simp only [List.nil_append, List.cons_append] at hG; have eg : y 2 = _ := dh_get hG 2 rfl (by kernel_rfl); simp only [eg]; first | exact wanted_t rfl rfl rfl | exact wanted_vt rfl rfl rfl
        · intro hc s' w' y Φ R hs H hG hΦ; have HC := Lib.hid hc; clear hc; skip; first | (refine L_1 0 _ _ rfl (Try.isAgg73 _) rfl H rfl rfl ?_; exact hΦ _ _ (Sub.refl _) H) | (refine L_1 1 _ _ rfl (Try.isAgg73 _) rfl H rfl rfl ?_; exact hΦ _ _ (Sub.refl _) H) | (refine L_1 2 _ _ rfl (Try.isAgg73 _) rfl H rfl rfl ?_; exact hΦ _ _ (Sub.refl _) H) | (refine L_1 3 _ _ rfl (Try.isAgg73 _) rfl H rfl rfl ?_; exact hΦ _ _ (Sub.refl _) H) | (refine G_pNi 0 _ _ rfl (Try.isAgg73 _) rfl H rfl (Try.sizeOf73 _) ?_; exact hΦ _ _ (Sub.refl _) H) | (refine G_pNi 1 _ _ rfl (Try.isAgg73 _) rfl H rfl (Try.sizeOf73 _) ?_; exact hΦ _ _ (Sub.refl _) H) | (refine G_pNi 2 _ _ rfl (Try.isAgg73 _) rfl H rfl (Try.sizeOf73 _) ?_; exact hΦ _ _ (Sub.refl _) H) | (refine G_pNi 3 _ _ rfl (Try.isAgg73 _) rfl H rfl (Try.sizeOf73 _) ?_; exact hΦ _ _ (Sub.refl _) H) | (refine G_s1 _ _ rfl (Try.isAgg73 _) rfl H (hC.mono hs) 0 rfl rfl ?_; exact hΦ _ _ (Sub.refl _) H) | (refine G_s1 _ _ rfl (Try.isAgg73 _) rfl H (hC.mono hs) _ rfl rfl ?_; exact hΦ _ _ (Sub.refl _) H) | (refine G_sN _ _ rfl (Try.isAgg73 _) rfl H (hC.mono hs) (Try.sizeOf73 _) ?_; exact hΦ _ _ (Sub.refl _) H)
        apply ObO.valg
        · intro x; rfl
        · intro s' y hG; simp only [List.nil_append, List.cons_append] at hG; have eg : y 2 = _ := dh_get hG 2 rfl (by kernel_rfl); simp only [eg]; first | exact wanted_t rfl rfl rfl | exact wanted_vt rfl rfl rfl
        · intro hc s' w' y Φ R hs H hG hΦ; simp only [List.nil_append, List.cons_append] at hG; have e3 : y 3 = _ := dh_get hG 3 rfl (by kernel_rfl); have e4 : y 4 = _ := dh_get hG 4 rfl (by kernel_rfl); (first | rw [vg_of hc] at e3 | rw [vg_of (and_l hc)] at e3 | rw [vg_of (and_l (and_l hc))] at e3 | rw [vg_of (and_l (and_l (and_l hc)))] at e3 | rw [vg_and hc] at e3 | skip); (first | rw [vg_of hc] at e4 | rw [vg_of (and_l hc)] at e4 | rw [vg_of (and_l (and_l hc))] at e4 | rw [vg_of (and_l (and_l (and_l hc)))] at e4 | rw [vg_and hc] at e4 | skip); have HC := Lib.hid hc; clear hc; simp only [e3, e4]; (refine G_lookup mk_thing 2 71 _ _ rfl Try.underlying71 (k := thingOf o) hok hVA.ok hVA.uniq rfl rfl H rfl (Try.zeroValue77 _) ?_; rw [hlk.out]; exact hΦ _ _ (Sub.refl _) H)
        apply ObO.valg
        · intro x; rfl
        · intro s' y hG; simp only [List.nil_append, List.cons_append] at hG; have eg : y 2 = _ := dh_get hG 2 rfl (by kernel_rfl); simp only [eg]; first | exact wanted_t rfl rfl rfl | exact wanted_vt rfl rfl rfl
        · intro hc s' w' y Φ R hs H hG hΦ; have HC := Lib.hid hc; clear hc; skip; first | (refine L_1 0 _ _ rfl (Try.isAgg25 _) rfl H rfl rfl ?_; exact hΦ _ _ (Sub.refl _) H) | (refine L_1 1 _ _ rfl (Try.isAgg25 _) rfl H rfl rfl ?_; exact hΦ _ _ (Sub.refl _) H) | (refine L_1 2 _ _ rfl (Try.isAgg25 _) rfl H rfl rfl ?_; exact hΦ _ _ (Sub.refl _) H) | (refine L_1 3 _ _ rfl (Try.isAgg25 _) rfl H rfl rfl ?_; exact hΦ _ _ (Sub.refl _) H) | (refine G_pNi 0 _ _ rfl (Try.isAgg25 _) rfl H rfl (Try.sizeOf25 _) ?_; exact hΦ _ _ (Sub.refl _) H) | (refine G_pNi 1 _ _ rfl (Try.isAgg25 _) rfl H rfl (Try.sizeOf25 _) ?_; exact hΦ _ _ (Sub.refl _) H) | (refine G_pNi 2 _ _ rfl (Try.isAgg25 _) rfl H rfl (Try.sizeOf25 _) ?_; exact hΦ _ _ (Sub.refl _) H) | (refine G_pNi 3 _ _ rfl (Try.isAgg25 _) rfl H rfl (Try.sizeOf25 _) ?_; exact hΦ _ _ (Sub.refl _) H) | (refine G_s1 _ _ rfl (Try.isAgg25 _) rfl H (hC.mono hs) 0 rfl rfl ?_; exact hΦ _ _ (Sub.refl _) H) | (refine G_s1 _ _ rfl (Try.isAgg25 _) rfl H (hC.mono hs) _ rfl rfl ?_; exact hΦ _ _ (Sub.refl _) H) | (refine G_sN _ _ rfl (Try.isAgg25 _) rfl H (hC.mono hs) (Try.sizeOf25 _) ?_; exact hΦ _ _ (Sub.refl _) H)
        apply ObO.valg
        · intro x; rfl
        · intro s' y hG; simp only [List.nil_append, List.cons_append] at hG; have eg : y 2 = _ := dh_get hG 2 rfl (by kernel_rfl); simp only [eg]; first | exact wanted_t rfl rfl rfl | exact wanted_vt rfl rfl rfl
        · intro hc s' w' y Φ R hs H hG hΦ; simp only [List.nil_append, List.cons_append] at hG; have e5 : y 5 = _ := dh_get hG 5 rfl (by kernel_rfl); have e6 : y 6 = _ := dh_get hG 6 rfl (by kernel_rfl); (first | rw [vg_of hc] at e5 | rw [vg_of (and_l hc)] at e5 | rw [vg_of (and_l (and_l hc))] at e5 | rw [vg_of (and_l (and_l (and_l hc)))] at e5 | rw [vg_and hc] at e5 | skip); (first | rw [vg_of hc] at e6 | rw [vg_of (and_l hc)] at e6 | rw [vg_of (and_l (and_l hc))] at e6 | rw [vg_of (and_l (and_l (and_l hc)))] at e6 | rw [vg_and hc] at e6 | skip); have HC := Lib.hid hc; clear hc; simp only [e5, e6]; (go_simp; refine (rightV_spec (fv (thingOf o)) o _ _ (hsl2.mono hs) (hol.mono hs) H).mono ?_; rintro e w2 ⟨rfl, H⟩; exact ⟨_, rfl, hΦ _ _ (Sub.refl _) H⟩)
        apply ObO.valg
        · intro x; rfl
        · intro s' y hG; simp only [List.nil_append, List.cons_append] at hG; have eg : y 2 = _ := dh_get hG 2 rfl (by kernel_rfl); simp only [eg]; first | exact wanted_t rfl rfl rfl | exact wanted_vt rfl rfl rfl
        · intro hc s' w' y Φ R hs H hG hΦ; simp only [List.nil_append, List.cons_append] at hG; have e7 : y 7 = _ := dh_get hG 7 rfl (by kernel_rfl); (first | rw [vg_of hc] at e7 | rw [vg_of (and_l hc)] at e7 | rw [vg_of (and_l (and_l hc))] at e7 | rw [vg_of (and_l (and_l (and_l hc)))] at e7 | rw [vg_and hc] at e7 | skip); have HC := Lib.hid hc; clear hc; simp only [e7]; (go_simp; exact hΦ _ _ (Sub.refl _) H)
        apply ObO.valw
        · intro x; rfl
        · intro s' w' y Φ R hs H hG hΦ; simp only [List.nil_append, List.cons_append] at hG; have e2 : y 2 = _ := dh_get hG 2 rfl (by kernel_rfl); have e8 : y 8 = _ := dh_get hG 8 rfl (by kernel_rfl); simp only [e2, e8]; refine wantG rfl ?_; (refine G_and _ _ _ rfl rfl rfl rfl ?_; exact hΦ _ _ (Sub.refl _) H)
        clear H
        intro s3 w3 yy hs3 H hG
        replace H := (show Holds _ _ ([] ++ _) _ from H); rw [List.nil_append] at H
        simp only [List.nil_append, List.cons_append] at hG
        have e0 : yy 0 = _ := gh_get hG 0 rfl
        have e1 : yy 1 = _ := gh_get hG 1 rfl
        have e2 : yy 2 = _ := gh_get hG 2 rfl
        have e3 : yy 3 = _ := gh_get hG 3 rfl
        have e4 : yy 4 = _ := gh_get hG 4 rfl
        have e5 : yy 5 = _ := gh_get hG 5 rfl
        have e6 : yy 6 = _ := gh_get hG 6 rfl
        have e7 : yy 7 = _ := gh_get hG 7 rfl
        have e8 : yy 8 = _ := gh_get hG 8 rfl
        have e9 : yy 9 = _ := gh_get hG 9 rfl
        simp only [e0, e1, e2, e3, e4, e5, e6, e7, e8, e9]
        clear hG e0 e1 e2 e3 e4 e5 e6 e7 e8 e9
        replace H := H.forget hs3
        refine list_end ?_
        refine then_norm ?_
        refine wp_cond_split rfl (fun hc => ?_) (fun hc => ?_)
        · skip
          refine wp_seq ?_
          refine wp_region_lit ?_
          apply seq_op rfl
          · intro Φ hΦ; go_simp; exact hΦ
          (try simp only [Act.put, List.setIfInBounds_toArray, List.set_cons_succ, List.set_cons_zero])
          apply seq_op rfl
          · intro Φ hΦ; go_simp; exact hΦ
          (try simp only [Act.put, List.setIfInBounds_toArray, List.set_cons_succ, List.set_cons_zero])
          refine list_end ?_
          refine then_norm ?_
          refine wp_ret ?_
          refine then_ret ?_
          refine block_ret ?_
          refine then_ret ?_
          refine then_ret ?_
          refine block_ret ?_
          refine then_ret ?_
          exact ret1 rfl (rv_tmp rfl) rfl ⟨by rw [← HR.out, hdr.out, checkV_stop hof hc]; rfl, (H.drop.drop.drop).forget hs1⟩
        · skip
          refine wp_skip ?_
          refine then_norm ?_
          refine wp_draw_obO (k := 7) (sz := 42) (List.replicate 7 7) (fun _ => []) mixed (by simp) rfl (by kernel_rfl) (by kernel_rfl) (by kernel_rfl) H (by simp only [List.take_succ_cons, List.take_zero]; exact rfl) (by simp only [List.drop_succ_cons, List.drop_zero]; exact rfl)
            (fun y => by simp only [ov, Act.put, List.setIfInBounds_toArray, List.set_cons_succ, List.set_cons_zero, Nat.zero_add, Nat.reduceAdd]; exact rfl) ?_
          apply ObO.valw
          · intro x; rfl
          · intro s' w' y Φ R hs H hG hΦ; skip; refine wantG rfl ?_; (go_simp; exact hΦ _ _ (Sub.refl _) H)
          apply ObO.valw
          · intro x; rfl
          · intro s' w' y Φ R hs H hG hΦ; skip; refine wantG rfl ?_; first | (refine L_1 0 _ _ rfl (Try.isAgg73 _) rfl H rfl rfl ?_; exact hΦ _ _ (Sub.refl _) H) | (refine L_1 1 _ _ rfl (Try.isAgg73 _) rfl H rfl rfl ?_; exact hΦ _ _ (Sub.refl _) H) | (refine L_1 2 _ _ rfl (Try.isAgg73 _) rfl H rfl rfl ?_; exact hΦ _ _ (Sub.refl _) H) | (refine L_1 3 _ _ rfl (Try.isAgg73 _) rfl H rfl rfl ?_; exact hΦ _ _ (Sub.refl _) H) | (refine G_pNi 0 _ _ rfl (Try.isAgg73 _) rfl H rfl (Try.sizeOf73 _) ?_; exact hΦ _ _ (Sub.refl _) H) | (refine G_pNi 1 _ _ rfl (Try.isAgg73 _) rfl H rfl (Try.sizeOf73 _) ?_; exact hΦ _ _ (Sub.refl _) H) | (refine G_pNi 2 _ _ rfl (Try.isAgg73 _) rfl H rfl (Try.sizeOf73 _) ?_; exact hΦ _ _ (Sub.refl _) H) | (refine G_pNi 3 _ _ rfl (Try.isAgg73 _) rfl H rfl (Try.sizeOf73 _) ?_; exact hΦ _ _ (Sub.refl _) H) | (refine G_s1 _ _ rfl (Try.isAgg73 _) rfl H (hC.mono hs) 0 rfl rfl ?_; exact hΦ _ _ (Sub.refl _) H) | (refine G_s1 _ _ rfl (Try.isAgg73 _) rfl H (hC.mono hs) _ rfl rfl ?_; exact hΦ _ _ (Sub.refl _) H) | (refine G_sN _ _ rfl (Try.isAgg73 _) rfl H (hC.mono hs) (Try.sizeOf73 _) ?_; exact hΦ _ _ (Sub.refl _) H)
          apply ObO.valw
          · intro x; rfl
          · intro s' w' y Φ R hs H hG hΦ; skip; refine wantG rfl ?_; (go_simp; exact hΦ _ _ (Sub.refl _) H)
          apply ObO.valw
          · intro x; rfl
          · intro s' w' y Φ R hs H hG hΦ; skip; refine wantG rfl ?_; first | (refine L_1 0 _ _ rfl (Try.isAgg73 _) rfl H rfl rfl ?_; exact hΦ _ _ (Sub.refl _) H) | (refine L_1 1 _ _ rfl (Try.isAgg73 _) rfl H rfl rfl ?_; exact hΦ _ _ (Sub.refl _) H) | (refine L_1 2 _ _ rfl (Try.isAgg73 _) rfl H rfl rfl ?_; exact hΦ _ _ (Sub.refl _) H) | (refine L_1 3 _ _ rfl (Try.isAgg73 _) rfl H rfl rfl ?_; exact hΦ _ _ (Sub.refl _) H) | (refine G_pNi 0 _ _ rfl (Try.isAgg73 _) rfl H rfl (Try.sizeOf73 _) ?_; exact hΦ _ _ (Sub.refl _) H) | (refine G_pNi 1 _ _ rfl (Try.isAgg73 _) rfl H rfl (Try.sizeOf73 _) ?_; exact hΦ _ _ (Sub.refl _) H) | (refine G_pNi 2 _ _ rfl (Try.isAgg73 _) rfl H rfl (Try.sizeOf73 _) ?_; exact hΦ _ _ (Sub.refl _) H) | (refine G_pNi 3 _ _ rfl (Try.isAgg73 _) rfl H rfl (Try.sizeOf73 _) ?_; exact hΦ _ _ (Sub.refl _) H) | (refine G_s1 _ _ rfl (Try.isAgg73 _) rfl H (hC.mono hs) 0 rfl rfl ?_; exact hΦ _ _ (Sub.refl _) H) | (refine G_s1 _ _ rfl (Try.isAgg73 _) rfl H (hC.mono hs) _ rfl rfl ?_; exact hΦ _ _ (Sub.refl _) H) | (refine G_sN _ _ rfl (Try.isAgg73 _) rfl H (hC.mono hs) (Try.sizeOf73 _) ?_; exact hΦ _ _ (Sub.refl _) H)
          apply ObO.valw
          · intro x; rfl
          · intro s' w' y Φ R hs H hG hΦ; simp only [List.nil_append, List.cons_append] at hG; have e2 : y 2 = _ := dh_get hG 2 rfl (by kernel_rfl); have e3 : y 3 = _ := dh_get hG 3 rfl (by kernel_rfl); simp only [e2, e3]; refine wantG rfl ?_; (refine G_lookup mk_thing 2 71 _ _ rfl Try.underlying71 (k := thingOf o) hok hVA.ok hVA.uniq rfl rfl H rfl (Try.zeroValue77 _) ?_; rw [hlk.out]; exact hΦ _ _ (Sub.refl _) H)
          apply ObO.valw
          · intro x; rfl
          · intro s' w' y Φ R hs H hG hΦ; skip; refine wantG rfl ?_; first | (refine L_1 0 _ _ rfl (Try.isAgg25 _) rfl H rfl rfl ?_; exact hΦ _ _ (Sub.refl _) H) | (refine L_1 1 _ _ rfl (Try.isAgg25 _) rfl H rfl rfl ?_; exact hΦ _ _ (Sub.refl _) H) | (refine L_1 2 _ _ rfl (Try.isAgg25 _) rfl H rfl rfl ?_; exact hΦ _ _ (Sub.refl _) H) | (refine L_1 3 _ _ rfl (Try.isAgg25 _) rfl H rfl rfl ?_; exact hΦ _ _ (Sub.refl _) H) | (refine G_pNi 0 _ _ rfl (Try.isAgg25 _) rfl H rfl (Try.sizeOf25 _) ?_; exact hΦ _ _ (Sub.refl _) H) | (refine G_pNi 1 _ _ rfl (Try.isAgg25 _) rfl H rfl (Try.sizeOf25 _) ?_; exact hΦ _ _ (Sub.refl _) H) | (refine G_pNi 2 _ _ rfl (Try.isAgg25 _) rfl H rfl (Try.sizeOf25 _) ?_; exact hΦ _ _ (Sub.refl _) H) | (refine G_pNi 3 _ _ rfl (Try.isAgg25 _) rfl H rfl (Try.sizeOf25 _) ?_; exact hΦ _ _ (Sub.refl _) H) | (refine G_s1 _ _ rfl (Try.isAgg25 _) rfl H (hC.mono hs) 0 rfl rfl ?_; exact hΦ _ _ (Sub.refl _) H) | (refine G_s1 _ _ rfl (Try.isAgg25 _) rfl H (hC.mono hs) _ rfl rfl ?_; exact hΦ _ _ (Sub.refl _) H) | (refine G_sN _ _ rfl (Try.isAgg25 _) rfl H (hC.mono hs) (Try.sizeOf25 _) ?_; exact hΦ _ _ (Sub.refl _) H)
          refine ObO.rel (fun s v => ∃ v', v = viewv (behindV (fv (thingOf o)) o) v' ∧ kI.Sl s v' (behindV (fv (thingOf o)) o).list) (fun _ _ _ h ⟨v', e, k⟩ => ⟨v', e, k.mono h⟩) (fun _ => rfl) ?_ ?_
          · intro s' w' y Φ R hs H hG hΦ
            simp only [List.nil_append, List.cons_append] at hG; have e4 : y 4 = _ := dh_get hG 4 rfl (by kernel_rfl); have e5 : y 5 = _ := dh_get hG 5 rfl (by kernel_rfl); (try simp only [e4, e5])
            refine wantG rfl ?_
            go_simp
            refine (behind_spec (fv (thingOf o)) o _ _ (hsl2.mono hs) (hol.mono hs) hval (room hlt hn hmem (hlen (thingOf o))) H).mono ?_
            rintro e w2 ⟨v', s2, rfl, hs2, H, hv'⟩
            exact ⟨_, rfl, hΦ _ _ _ hs2 H ⟨v', rfl, hv'⟩⟩
          clear H
          intro s3 w3 yy hs3 H hG
          replace H := (show Holds _ _ ([] ++ _) _ from H); rw [List.nil_append] at H
          simp only [List.nil_append, List.cons_append] at hG
          have e0 : yy 0 = _ := gh_get hG 0 rfl
          have e1 : yy 1 = _ := gh_get hG 1 rfl
          have e2 : yy 2 = _ := gh_get hG 2 rfl
          have e3 : yy 3 = _ := gh_get hG 3 rfl
          have e4 : yy 4 = _ := gh_get hG 4 rfl
          have e5 : yy 5 = _ := gh_get hG 5 rfl
          obtain ⟨v6, e6, hv6⟩ := gh_get hG 6 rfl
          simp only [e0, e1, e2, e3, e4, e5, e6]
          clear hG e0 e1 e2 e3 e4 e5 e6
          refine OpG.list rfl ?_; refine G_mapUpdate mk_thing 2 71 _ _ _ rfl Try.underlying71 (k := thingOf o) hok hVA.ok hVA.uniq rfl rfl rfl H rfl ?_
          clear H; intro w1 H; simp only [List.set_cons_succ, List.set_cons_zero] at H
          replace H := H.drop.drop
          refine list_end ?_
          refine block_norm ?_
          refine then_norm ?_
          have hw := i64w (n := (k : Int) + 1) (by omega) (by omega)
          refine wp_region_lit ?_
          apply seq_op rfl
          · intro Φ hΦ; go_simp; exact hΦ
          (try simp only [Act.put, List.setIfInBounds_toArray, List.set_cons_succ, List.set_cons_zero])
          apply seq_op rfl
          · intro Φ hΦ; go_simp; exact hΦ
          (try simp only [Act.put, List.setIfInBounds_toArray, List.set_cons_succ, List.set_cons_zero])
          refine list_end ?_
          refine then_norm ?_
          refine ⟨⟨⟨rfl, rfl, rfl, rfl, rfl, rfl, rfl⟩, rfl⟩, ?_, by simp [intOf]; omega⟩
          exact ⟨k + 1, _, _, s3, by omega, by go_num, by rw [← HR.out, hdr.out, checkV_go hof hc]; rfl, upd_len hlen (hB o hmem), hs1.trans hs3, (hVA.mono hs3).put hok hv6, H⟩
    · skip
      have hfin : k = xs.length := by
        have : ¬ k < xs.length := by simpa using hc
        omega
      subst hfin
      refine wp_exit ?_
      refine then_exit ?_
      refine then_exit ?_
      refine block_exit ?_
      refine then_norm ?_
      refine wp_seq ?_
      refine wp_region_lit ?_
      apply seq_op rfl
      · intro Φ hΦ; go_simp; exact hΦ
      (try simp only [Act.put, List.setIfInBounds_toArray, List.set_cons_succ, List.set_cons_zero])
      refine list_end ?_
      refine then_norm ?_
      refine wp_ret ?_
      exact ret1 rfl (rv_tmp rfl) rfl ⟨by rw [← HR.out, List.drop_length]; rfl, H.drop.forget hs1⟩
end Go.Proofs.Yticpadjheelipaa
