/- The inner layer: what a view is behind an operation. -/
import Derived.Test.YticpadjheelipaaView
import Derived.Test.YticpadjheelipaaWp
namespace Go.Proofs.Yticpadjheelipaa
open Go.RowKit
set_option linter.all false
set_option maxRecDepth 10000

set_option maxHeartbeats 4000000 in
theorem behind_spec {E : World} {s : SH} {L : List HP} {w : World} (x : View) (o : Op') (vl ol : Value) (hv : kI.Sl s vl x.list) (ho : kI.Sl s ol o.list) (hval : Kin.inI64 o.value) (hby : o.kind = 1 → (x.list.length + 1) * 8 ≤ 140737488355328) (H : Holds E s L w) :
    Calls Try.prog 43 #[viewv x vl, opv o ol] w fun e w' => ∃ v' s', e = .returned (viewv (behindV x o) v') ∧ Sub s s' ∧ Holds E s' L w' ∧ kI.Sl s' v' (behindV x o).list := by
  unfold opv viewv
  obtain ⟨k, key, val, li, has, nl⟩ := o
  obtain ⟨whole, list, none_, value⟩ := x
  simp only at hv ho hval hby
  have hv0 := hv
  have ho0 := ho
  obtain ⟨Av, cv, rfl, -⟩ := hv
  obtain ⟨Ao, co, rfl, -⟩ := ho
  go_enter Try.func43, Try.ntmps43
  refine wp_seq ?_
  refine wp_region_lit ?_
  refine OpG.list rfl ?_; refine B_x 77 _ rfl rfl H ?_; clear H; intro b2 w1 H; (try simp only [Value.cells] at H)
  (try simp only [Act.put, List.setIfInBounds_toArray, List.set_cons_succ, List.set_cons_zero])
  refine OpG.list rfl ?_; refine B_x 25 _ rfl rfl H ?_; clear H; intro b3 w1 H; (try simp only [Value.cells] at H)
  (try simp only [Act.put, List.setIfInBounds_toArray, List.set_cons_succ, List.set_cons_zero])
  refine OpG.list rfl ?_; refine G_alloc 77 rfl (Try.zeroValue77 _) H ?_; clear H; intro b4 w1 H; (try simp only [Value.cells] at H)
  (try simp only [Act.put, List.setIfInBounds_toArray, List.set_cons_succ, List.set_cons_zero])
  refine list_end ?_
  refine then_norm ?_
  refine wp_seq ?_
  refine wp_block ?_
  refine wp_seq ?_
  refine wp_region_lit ?_
  apply seq_op rfl
  · intro Φ hΦ; go_simp; exact hΦ
  (try simp only [Act.put, List.setIfInBounds_toArray, List.set_cons_succ, List.set_cons_zero])
  apply seq_op rfl
  · intro Φ hΦ; first | (refine L_1 0 _ _ rfl (Try.isAgg3 _) rfl H rfl rfl ?_; exact hΦ) | (refine L_1 1 _ _ rfl (Try.isAgg3 _) rfl H rfl rfl ?_; exact hΦ) | (refine L_1 2 _ _ rfl (Try.isAgg3 _) rfl H rfl rfl ?_; exact hΦ) | (refine G_pNi 0 _ _ rfl (Try.isAgg3 _) rfl H rfl (Try.sizeOf3 _) ?_; exact hΦ) | (refine G_pNi 1 _ _ rfl (Try.isAgg3 _) rfl H rfl (Try.sizeOf3 _) ?_; exact hΦ) | (refine G_pNi 2 _ _ rfl (Try.isAgg3 _) rfl H rfl (Try.sizeOf3 _) ?_; exact hΦ)
  (try simp only [Act.put, List.setIfInBounds_toArray, List.set_cons_succ, List.set_cons_zero])
  apply seq_op rfl
  · intro Φ hΦ; go_simp; exact hΦ
  (try simp only [Act.put, List.setIfInBounds_toArray, List.set_cons_succ, List.set_cons_zero])
  apply seq_op rfl
  · intro Φ hΦ; go_simp; exact hΦ
  (try simp only [Act.put, List.setIfInBounds_toArray, List.set_cons_succ, List.set_cons_zero])
  refine list_end ?_
  refine then_norm ?_
  refine wp_cond_split rfl (fun hc => ?_) (fun hc => ?_)
  · skip
    have hk : k = 1 := by simpa using hc
    replace H := H.rot3'
    refine wp_draw_obO (k := 9) (sz := 44) [9, 8, 6, 9, 9, 6, 8, 9, 9] (fun i => if i = 1 then [pt b2 (.cells #[.bool whole, (.slice Av list.length cv), .bool none_, .int .i64 value] 77 (0, 0))] else []) mixed (by simp) rfl (by kernel_rfl) (by kernel_rfl) (by kernel_rfl) H (by simp only [List.take_succ_cons, List.take_zero]; exact rfl) (by simp only [List.drop_succ_cons, List.drop_zero]; exact rfl)
      (fun y => by simp only [ov, Act.put, List.setIfInBounds_toArray, List.set_cons_succ, List.set_cons_zero, Nat.zero_add, Nat.reduceAdd]; exact rfl) ?_
    apply ObO.valw
    · intro x; rfl
    · intro s' w' y Φ R hs H hG hΦ; skip; refine wantG rfl ?_; (go_simp; exact hΦ _ _ (Sub.refl _) H)
    refine ObO.own (isV (.slice Av list.length cv)) (fun v => [pt b2 (.cells #[.bool whole, (.slice Av list.length cv), .bool none_, .int .i64 value] 77 (0, 0))]) (fun _ _ _ _ h => h) ?_ ?_
    · intro s' w' y Φ R hs H hG hΦ
      replace H : Holds E s' (pt b2 (.cells #[.bool whole, (.slice Av list.length cv), .bool none_, .int .i64 value] 77 (0, 0)) :: ((pt b4 (.cells #[.bool false, .slice none 0 0, .bool false, .int .i64 0] 77 (0, 0)) :: pt b3 (.cells #[.int .i64 k, .string key, .int .i64 val, (.slice Ao li.length co), .bool has, .bool nl] 25 (0, 0)) :: L) ++ R)) w' := H
      simp only [List.nil_append, List.cons_append] at hG; have e0 : y 0 = _ := dh_get hG 0 rfl (by kernel_rfl); (try simp only [e0])
      refine wantY rfl ?_
      refine L_1 0 _ _ rfl (Try.isAgg23 _) rfl H rfl rfl ?_
      exact hΦ _ _ _ (Sub.refl _) H rfl
    refine ObO.own (fun _ _ => True) (fun v => [kI.Osl v list]) (fun _ _ _ _ h => h) ?_ ?_
    · intro s' w' y Φ R hs H hG hΦ
      replace H : Holds E s' (((pt b4 (.cells #[.bool false, .slice none 0 0, .bool false, .int .i64 0] 77 (0, 0)) :: pt b3 (.cells #[.int .i64 k, .string key, .int .i64 val, (.slice Ao li.length co), .bool has, .bool nl] 25 (0, 0)) :: L) ++ R)) w' := H
      simp only [List.nil_append, List.cons_append] at hG; have e1 : y 1 = _ := dh_get hG 1 rfl (by kernel_rfl); (try simp only [e1])
      refine wantY rfl ?_
      go_simp
      refine (cloneI_spec H (hv0.mono hs)).mono ?_
      rintro e w1 ⟨v4, rfl, H⟩
      exact ⟨_, rfl, hΦ _ _ _ (Sub.refl _) H trivial⟩
    apply ObO.valw
    · intro x; rfl
    · intro s' w' y Φ R hs H hG hΦ; skip; refine wantG rfl ?_; (go_simp; exact hΦ _ _ (Sub.refl _) H)
    apply ObO.valw
    · intro x; rfl
    · intro s' w' y Φ R hs H hG hΦ; simp only [List.nil_append, List.cons_append] at hG; have e3 : y 3 = _ := dh_get hG 3 rfl (by kernel_rfl); simp only [e3]; refine wantG rfl ?_; first | (refine L_1 0 _ _ rfl (Try.isAgg3 _) rfl H rfl rfl ?_; exact hΦ _ _ (Sub.refl _) H) | (refine L_1 1 _ _ rfl (Try.isAgg3 _) rfl H rfl rfl ?_; exact hΦ _ _ (Sub.refl _) H) | (refine L_1 2 _ _ rfl (Try.isAgg3 _) rfl H rfl rfl ?_; exact hΦ _ _ (Sub.refl _) H) | (refine G_pNi 0 _ _ rfl (Try.isAgg3 _) rfl H rfl (Try.sizeOf3 _) ?_; exact hΦ _ _ (Sub.refl _) H) | (refine G_pNi 1 _ _ rfl (Try.isAgg3 _) rfl H rfl (Try.sizeOf3 _) ?_; exact hΦ _ _ (Sub.refl _) H) | (refine G_pNi 2 _ _ rfl (Try.isAgg3 _) rfl H rfl (Try.sizeOf3 _) ?_; exact hΦ _ _ (Sub.refl _) H)
    refine ObO.own (fun _ _ => True) (fun v => [(fun h => ∃ b5, v = .slice (some ⟨b5, 0, none⟩) 1 1 ∧ pt b5 (.cells #[.int .i64 val] 3 (0, 0)) h)]) (fun _ _ _ _ h => h) ?_ ?_
    · intro s' w' y Φ R hs H hG hΦ
      replace H : Holds E s' (((pt b4 (.cells #[.bool false, .slice none 0 0, .bool false, .int .i64 0] 77 (0, 0)) :: pt b3 (.cells #[.int .i64 k, .string key, .int .i64 val, (.slice Ao li.length co), .bool has, .bool nl] 25 (0, 0)) :: L) ++ R)) w' := H
      simp only [List.nil_append, List.cons_append] at hG; have e4 : y 4 = _ := dh_get hG 4 rfl (by kernel_rfl); (try simp only [e4])
      refine wantY rfl ?_
      refine G_slice1 (v := Value.int .i64 val) rfl rfl Try.underlying23 Try.sizeOf3 Try.zeroValue3 rfl rfl (by decide) (by decide) H ?_
      intro b5 w5 H
      exact hΦ _ _ _ (Sub.refl _) (H.map fun h k => ⟨b5, rfl, k⟩) trivial
    refine ObO.own (fun _ _ => True) (fun v => [kI.Osl v (list ++ [val])]) (fun _ _ _ _ h => h) ?_ ?_
    · intro s' w' y Φ R hs H hG hΦ
      replace H : Holds E s' (kI.Osl (y 2) list :: (fun h => ∃ b5, y 5 = .slice (some ⟨b5, 0, none⟩) 1 1 ∧ pt b5 (.cells #[.int .i64 val] 3 (0, 0)) h) :: ((pt b4 (.cells #[.bool false, .slice none 0 0, .bool false, .int .i64 0] 77 (0, 0)) :: pt b3 (.cells #[.int .i64 k, .string key, .int .i64 val, (.slice Ao li.length co), .bool has, .bool nl] 25 (0, 0)) :: L) ++ R)) w' := H
      skip
      refine wantY rfl ?_
      obtain ⟨b5, H⟩ := (H.swap).exists_
      obtain ⟨e5, H⟩ := H.pure_
      refine G_append1 kI_at _ _ rfl (p := val) (cs := [.int .i64 val]) ((Holds.map (A := emp) (fun h k => ⟨⟨rfl, hval⟩, k⟩) H.swap.mkEmp).swap.swap2.swap) rfl e5 (hby hk) ?_
      intro v6 w6 H
      exact hΦ _ _ _ (Sub.refl _) H trivial
    apply ObO.valw
    · intro x; rfl
    · intro s' w' y Φ R hs H hG hΦ; skip; refine wantG rfl ?_; (go_simp; exact hΦ _ _ (Sub.refl _) H)
    refine ObO.own (fun _ _ => True) (fun v => [(fun h => ∃ u, star (pt b2 (.cells #[.bool whole, u, .bool none_, .int .i64 value] 77 (0, 0))) (kI.Osl u (list ++ [val])) h)]) (fun _ _ _ _ h => h) ?_ ?_
    · intro s' w' y Φ R hs H hG hΦ
      replace H : Holds E s' (pt b2 (.cells #[.bool whole, (.slice Av list.length cv), .bool none_, .int .i64 value] 77 (0, 0)) :: kI.Osl (y 6) (list ++ [val]) :: ((pt b4 (.cells #[.bool false, .slice none 0 0, .bool false, .int .i64 0] 77 (0, 0)) :: pt b3 (.cells #[.int .i64 k, .string key, .int .i64 val, (.slice Ao li.length co), .bool has, .bool nl] 25 (0, 0)) :: L) ++ R)) w' := H
      simp only [List.nil_append, List.cons_append] at hG; have e7 : y 7 = _ := dh_get hG 7 rfl (by kernel_rfl); (try simp only [e7])
      refine wantY rfl ?_
      obtain ⟨A6, c6, hv6, -⟩ := H.swap.len
      have hone6 : (y 6).oneCell' = true := by rw [hv6]; rfl
      refine G_set1 _ _ _ rfl (Try.sizeOf23 _) rfl rfl hone6 H (by simp) ?_
      intro w8 H
      exact hΦ _ _ _ (Sub.refl _) (H.shut.map fun h k => ⟨y 6, k⟩) trivial
    clear H
    intro s3 w3 yy hs3 H hG
    replace H : Holds E s3 ((fun h => ∃ u, star (pt b2 (.cells #[.bool whole, u, .bool none_, .int .i64 value] 77 (0, 0))) (kI.Osl u (list ++ [val])) h) :: pt b4 (.cells #[.bool false, .slice none 0 0, .bool false, .int .i64 0] 77 (0, 0)) :: pt b3 (.cells #[.int .i64 k, .string key, .int .i64 val, (.slice Ao li.length co), .bool has, .bool nl] 25 (0, 0)) :: L) w3 := H
    simp only [List.nil_append, List.cons_append] at hG
    have e0 : yy 0 = _ := gh_get hG 0 rfl
    have e1 : yy 1 = _ := gh_get hG 1 rfl
    have e3 : yy 3 = _ := gh_get hG 3 rfl
    have e4 : yy 4 = _ := gh_get hG 4 rfl
    have e7 : yy 7 = _ := gh_get hG 7 rfl
    simp only [e0, e1, e3, e4, e7]
    clear hG e0 e1 e3 e4 e7
    refine list_end ?_
    obtain ⟨u, H⟩ := H.exists_
    replace H := H.open_
    obtain ⟨s4, hs4, H, hu⟩ := Kin.Osl.fr H.swap
    have hu0 := hu
    obtain ⟨A6, c6, rfl, -⟩ := hu
    replace H := H.rot3
    refine block_norm ?_
    refine then_norm ?_
    refine wp_seq ?_
    refine wp_region_lit ?_
    apply seq_op rfl
    · intro Φ hΦ; first | (refine L_1 0 _ _ rfl (Try.isAgg77 _) rfl H rfl rfl ?_; exact hΦ) | (refine L_1 1 _ _ rfl (Try.isAgg77 _) rfl H rfl rfl ?_; exact hΦ) | (refine L_1 2 _ _ rfl (Try.isAgg77 _) rfl H rfl rfl ?_; exact hΦ) | (refine G_pNi 0 _ _ rfl (Try.isAgg77 _) rfl H rfl (Try.sizeOf77 _) ?_; exact hΦ) | (refine G_pNi 1 _ _ rfl (Try.isAgg77 _) rfl H rfl (Try.sizeOf77 _) ?_; exact hΦ) | (refine G_pNi 2 _ _ rfl (Try.isAgg77 _) rfl H rfl (Try.sizeOf77 _) ?_; exact hΦ)
    (try simp only [Act.put, List.setIfInBounds_toArray, List.set_cons_succ, List.set_cons_zero])
    refine OpG.list rfl ?_; first | (refine S_1 0 _ _ _ rfl (Try.sizeOf77 _) rfl rfl H rfl ?_ ?_ ?_; (focus (first | (simp [Value.oneCell']; done) | assumption)); (focus (simp; done))) | (refine G_setNi 0 _ _ _ rfl (Try.sizeOf77 _) rfl rfl ?_ H rfl rfl ?_; (focus (first | (simp [Value.oneCell']; done) | assumption))) | (refine S_1 1 _ _ _ rfl (Try.sizeOf77 _) rfl rfl H rfl ?_ ?_ ?_; (focus (first | (simp [Value.oneCell']; done) | assumption)); (focus (simp; done))) | (refine G_setNi 1 _ _ _ rfl (Try.sizeOf77 _) rfl rfl ?_ H rfl rfl ?_; (focus (first | (simp [Value.oneCell']; done) | assumption))) | (refine S_1 2 _ _ _ rfl (Try.sizeOf77 _) rfl rfl H rfl ?_ ?_ ?_; (focus (first | (simp [Value.oneCell']; done) | assumption)); (focus (simp; done))) | (refine G_setNi 2 _ _ _ rfl (Try.sizeOf77 _) rfl rfl ?_ H rfl rfl ?_; (focus (first | (simp [Value.oneCell']; done) | assumption)))
    clear H; intro w1 H; simp only [List.set_cons_succ, List.set_cons_zero] at H
    refine list_end ?_
    refine then_norm ?_
    refine wp_ret ?_
    have hb : behindV ⟨whole, list, none_, value⟩ ⟨k, key, val, li, has, nl⟩ = ⟨whole, list ++ [val], none_, value⟩ := by
      unfold behindV
      simp [hk]
    simp only [hb]
    exact ret1 rfl (rv_cellN 0 H rfl rfl (Try.isAgg77 _) (Try.sizeOf77 _)) rfl ⟨_, s4, rfl, hs3.trans hs4, H.drop.drop.drop, by exact hu0⟩
  · skip
    have hk : ¬ k = 1 := by simpa using hc
    refine wp_seq ?_
    refine wp_region_lit ?_
    apply seq_op rfl
    · intro Φ hΦ; go_simp; exact hΦ
    (try simp only [Act.put, List.setIfInBounds_toArray, List.set_cons_succ, List.set_cons_zero])
    apply seq_op rfl
    · intro Φ hΦ; first | (refine L_1 0 _ _ rfl (Try.isAgg3 _) rfl H rfl rfl ?_; exact hΦ) | (refine L_1 1 _ _ rfl (Try.isAgg3 _) rfl H rfl rfl ?_; exact hΦ) | (refine L_1 2 _ _ rfl (Try.isAgg3 _) rfl H rfl rfl ?_; exact hΦ) | (refine G_pNi 0 _ _ rfl (Try.isAgg3 _) rfl H rfl (Try.sizeOf3 _) ?_; exact hΦ) | (refine G_pNi 1 _ _ rfl (Try.isAgg3 _) rfl H rfl (Try.sizeOf3 _) ?_; exact hΦ) | (refine G_pNi 2 _ _ rfl (Try.isAgg3 _) rfl H rfl (Try.sizeOf3 _) ?_; exact hΦ)
    (try simp only [Act.put, List.setIfInBounds_toArray, List.set_cons_succ, List.set_cons_zero])
    apply seq_op rfl
    · intro Φ hΦ; go_simp; exact hΦ
    (try simp only [Act.put, List.setIfInBounds_toArray, List.set_cons_succ, List.set_cons_zero])
    apply seq_op rfl
    · intro Φ hΦ; go_simp; exact hΦ
    (try simp only [Act.put, List.setIfInBounds_toArray, List.set_cons_succ, List.set_cons_zero])
    refine list_end ?_
    refine then_norm ?_
    refine wp_cond_split rfl (fun hc => ?_) (fun hc => ?_)
    · skip
      have hk3 : k = 3 := by simpa using hc
      refine wp_region_lit ?_
      apply seq_op rfl
      · intro Φ hΦ; go_simp; exact hΦ
      (try simp only [Act.put, List.setIfInBounds_toArray, List.set_cons_succ, List.set_cons_zero])
      apply seq_op rfl
      · intro Φ hΦ; first | (refine L_1 0 _ _ rfl (Try.isAgg3 _) rfl H rfl rfl ?_; exact hΦ) | (refine L_1 1 _ _ rfl (Try.isAgg3 _) rfl H rfl rfl ?_; exact hΦ) | (refine L_1 2 _ _ rfl (Try.isAgg3 _) rfl H rfl rfl ?_; exact hΦ) | (refine G_pNi 0 _ _ rfl (Try.isAgg3 _) rfl H rfl (Try.sizeOf3 _) ?_; exact hΦ) | (refine G_pNi 1 _ _ rfl (Try.isAgg3 _) rfl H rfl (Try.sizeOf3 _) ?_; exact hΦ) | (refine G_pNi 2 _ _ rfl (Try.isAgg3 _) rfl H rfl (Try.sizeOf3 _) ?_; exact hΦ)
      (try simp only [Act.put, List.setIfInBounds_toArray, List.set_cons_succ, List.set_cons_zero])
      apply seq_op rfl
      · intro Φ hΦ; go_simp; exact hΦ
      (try simp only [Act.put, List.setIfInBounds_toArray, List.set_cons_succ, List.set_cons_zero])
      refine OpG.list rfl ?_; first | (refine S_1 0 _ _ _ rfl (Try.sizeOf77 _) rfl rfl H rfl ?_ ?_ ?_; (focus (first | (simp [Value.oneCell']; done) | assumption)); (focus (simp; done))) | (refine G_setNi 0 _ _ _ rfl (Try.sizeOf77 _) rfl rfl ?_ H rfl rfl ?_; (focus (first | (simp [Value.oneCell']; done) | assumption))) | (refine S_1 1 _ _ _ rfl (Try.sizeOf77 _) rfl rfl H rfl ?_ ?_ ?_; (focus (first | (simp [Value.oneCell']; done) | assumption)); (focus (simp; done))) | (refine G_setNi 1 _ _ _ rfl (Try.sizeOf77 _) rfl rfl ?_ H rfl rfl ?_; (focus (first | (simp [Value.oneCell']; done) | assumption))) | (refine S_1 2 _ _ _ rfl (Try.sizeOf77 _) rfl rfl H rfl ?_ ?_ ?_; (focus (first | (simp [Value.oneCell']; done) | assumption)); (focus (simp; done))) | (refine G_setNi 2 _ _ _ rfl (Try.sizeOf77 _) rfl rfl ?_ H rfl rfl ?_; (focus (first | (simp [Value.oneCell']; done) | assumption)))
      clear H; intro w1 H; simp only [List.set_cons_succ, List.set_cons_zero] at H
      refine list_end ?_
      refine block_norm ?_
      refine then_norm ?_
      refine wp_seq ?_
      refine wp_region_lit ?_
      apply seq_op rfl
      · intro Φ hΦ; first | (refine L_1 0 _ _ rfl (Try.isAgg77 _) rfl H rfl rfl ?_; exact hΦ) | (refine L_1 1 _ _ rfl (Try.isAgg77 _) rfl H rfl rfl ?_; exact hΦ) | (refine L_1 2 _ _ rfl (Try.isAgg77 _) rfl H rfl rfl ?_; exact hΦ) | (refine G_pNi 0 _ _ rfl (Try.isAgg77 _) rfl H rfl (Try.sizeOf77 _) ?_; exact hΦ) | (refine G_pNi 1 _ _ rfl (Try.isAgg77 _) rfl H rfl (Try.sizeOf77 _) ?_; exact hΦ) | (refine G_pNi 2 _ _ rfl (Try.isAgg77 _) rfl H rfl (Try.sizeOf77 _) ?_; exact hΦ)
      (try simp only [Act.put, List.setIfInBounds_toArray, List.set_cons_succ, List.set_cons_zero])
      refine OpG.list rfl ?_; first | (refine S_1 0 _ _ _ rfl (Try.sizeOf77 _) rfl rfl H rfl ?_ ?_ ?_; (focus (first | (simp [Value.oneCell']; done) | assumption)); (focus (simp; done))) | (refine G_setNi 0 _ _ _ rfl (Try.sizeOf77 _) rfl rfl ?_ H rfl rfl ?_; (focus (first | (simp [Value.oneCell']; done) | assumption))) | (refine S_1 1 _ _ _ rfl (Try.sizeOf77 _) rfl rfl H rfl ?_ ?_ ?_; (focus (first | (simp [Value.oneCell']; done) | assumption)); (focus (simp; done))) | (refine G_setNi 1 _ _ _ rfl (Try.sizeOf77 _) rfl rfl ?_ H rfl rfl ?_; (focus (first | (simp [Value.oneCell']; done) | assumption))) | (refine S_1 2 _ _ _ rfl (Try.sizeOf77 _) rfl rfl H rfl ?_ ?_ ?_; (focus (first | (simp [Value.oneCell']; done) | assumption)); (focus (simp; done))) | (refine G_setNi 2 _ _ _ rfl (Try.sizeOf77 _) rfl rfl ?_ H rfl rfl ?_; (focus (first | (simp [Value.oneCell']; done) | assumption)))
      clear H; intro w1 H; simp only [List.set_cons_succ, List.set_cons_zero] at H
      refine list_end ?_
      refine then_norm ?_
      refine wp_ret ?_
      have hb : behindV ⟨whole, list, none_, value⟩ ⟨k, key, val, li, has, nl⟩ = ⟨true, [], false, val⟩ := by
        unfold behindV
        simp [hk, hk3]
      simp only [hb]
      exact ret1 rfl (rv_cellN 0 H rfl rfl (Try.isAgg77 _) (Try.sizeOf77 _)) rfl ⟨.slice none 0 0, s, rfl, Sub.refl s, H.drop.drop.drop, by exact Kin.Sl.nil⟩
    · skip
      have hk3 : ¬ k = 3 := by simpa using hc
      refine wp_seq ?_
      refine wp_plain_obO (k := 8) (sz := 44) (List.replicate 8 8) (fun _ => []) rfl rfl (by kernel_rfl) (by kernel_rfl) H (by simp only [List.take_succ_cons, List.take_zero]; exact rfl)
        (fun y => by simp only [ov, Act.put, List.setIfInBounds_toArray, List.set_cons_succ, List.set_cons_zero, Nat.zero_add, Nat.reduceAdd]; exact rfl) ?_
      apply ObO.valw
      · intro x; rfl
      · intro s' w' y Φ R hs H hG hΦ; skip; refine wantG rfl ?_; (go_simp; exact hΦ _ _ (Sub.refl _) H)
      apply ObO.valw
      · intro x; rfl
      · intro s' w' y Φ R hs H hG hΦ; simp only [List.nil_append, List.cons_append] at hG; have e0 : y 0 = _ := dh_get hG 0 rfl (by kernel_rfl); simp only [e0]; refine wantG rfl ?_; first | (refine L_1 0 _ _ rfl (Try.isAgg4 _) rfl H rfl rfl ?_; exact hΦ _ _ (Sub.refl _) H) | (refine L_1 1 _ _ rfl (Try.isAgg4 _) rfl H rfl rfl ?_; exact hΦ _ _ (Sub.refl _) H) | (refine L_1 2 _ _ rfl (Try.isAgg4 _) rfl H rfl rfl ?_; exact hΦ _ _ (Sub.refl _) H) | (refine G_pNi 0 _ _ rfl (Try.isAgg4 _) rfl H rfl (Try.sizeOf4 _) ?_; exact hΦ _ _ (Sub.refl _) H) | (refine G_pNi 1 _ _ rfl (Try.isAgg4 _) rfl H rfl (Try.sizeOf4 _) ?_; exact hΦ _ _ (Sub.refl _) H) | (refine G_pNi 2 _ _ rfl (Try.isAgg4 _) rfl H rfl (Try.sizeOf4 _) ?_; exact hΦ _ _ (Sub.refl _) H)
      apply ObO.valw
      · intro x; rfl
      · intro s' w' y Φ R hs H hG hΦ; simp only [List.nil_append, List.cons_append] at hG; have e1 : y 1 = _ := dh_get hG 1 rfl (by kernel_rfl); simp only [e1]; refine wantG rfl ?_; (go_simp; exact hΦ _ _ (Sub.refl _) H)
      apply ObO.valg
      · intro x; rfl
      · intro s' y hG; simp only [List.nil_append, List.cons_append] at hG; have eg : y 2 = _ := dh_get hG 2 rfl (by kernel_rfl); simp only [eg]; first | exact wanted_t rfl rfl rfl | exact wanted_vt rfl rfl rfl
      · intro hc s' w' y Φ R hs H hG hΦ; have HC := Lib.hid hc; clear hc; skip; (go_simp; exact hΦ _ _ (Sub.refl _) H)
      apply ObO.valg
      · intro x; rfl
      · intro s' y hG; simp only [List.nil_append, List.cons_append] at hG; have eg : y 2 = _ := dh_get hG 2 rfl (by kernel_rfl); simp only [eg]; first | exact wanted_t rfl rfl rfl | exact wanted_vt rfl rfl rfl
      · intro hc s' w' y Φ R hs H hG hΦ; simp only [List.nil_append, List.cons_append] at hG; have e3 : y 3 = _ := dh_get hG 3 rfl (by kernel_rfl); (first | rw [vg_of hc] at e3 | rw [vg_of (and_l hc)] at e3 | rw [vg_of (and_l (and_l hc))] at e3 | rw [vg_of (and_l (and_l (and_l hc)))] at e3 | rw [vg_and hc] at e3 | skip); have HC := Lib.hid hc; clear hc; simp only [e3]; first | (refine L_1 0 _ _ rfl (Try.isAgg3 _) rfl H rfl rfl ?_; exact hΦ _ _ (Sub.refl _) H) | (refine L_1 1 _ _ rfl (Try.isAgg3 _) rfl H rfl rfl ?_; exact hΦ _ _ (Sub.refl _) H) | (refine L_1 2 _ _ rfl (Try.isAgg3 _) rfl H rfl rfl ?_; exact hΦ _ _ (Sub.refl _) H) | (refine G_pNi 0 _ _ rfl (Try.isAgg3 _) rfl H rfl (Try.sizeOf3 _) ?_; exact hΦ _ _ (Sub.refl _) H) | (refine G_pNi 1 _ _ rfl (Try.isAgg3 _) rfl H rfl (Try.sizeOf3 _) ?_; exact hΦ _ _ (Sub.refl _) H) | (refine G_pNi 2 _ _ rfl (Try.isAgg3 _) rfl H rfl (Try.sizeOf3 _) ?_; exact hΦ _ _ (Sub.refl _) H)
      apply ObO.valg
      · intro x; rfl
      · intro s' y hG; simp only [List.nil_append, List.cons_append] at hG; have eg : y 2 = _ := dh_get hG 2 rfl (by kernel_rfl); simp only [eg]; first | exact wanted_t rfl rfl rfl | exact wanted_vt rfl rfl rfl
      · intro hc s' w' y Φ R hs H hG hΦ; simp only [List.nil_append, List.cons_append] at hG; have e4 : y 4 = _ := dh_get hG 4 rfl (by kernel_rfl); (first | rw [vg_of hc] at e4 | rw [vg_of (and_l hc)] at e4 | rw [vg_of (and_l (and_l hc))] at e4 | rw [vg_of (and_l (and_l (and_l hc)))] at e4 | rw [vg_and hc] at e4 | skip); have HC := Lib.hid hc; clear hc; simp only [e4]; (go_simp; exact hΦ _ _ (Sub.refl _) H)
      apply ObO.valw
      · intro x; rfl
      · intro s' w' y Φ R hs H hG hΦ; simp only [List.nil_append, List.cons_append] at hG; have e2 : y 2 = _ := dh_get hG 2 rfl (by kernel_rfl); have e5 : y 5 = _ := dh_get hG 5 rfl (by kernel_rfl); simp only [e2, e5]; refine wantG rfl ?_; (refine G_and _ _ _ rfl rfl rfl rfl ?_; exact hΦ _ _ (Sub.refl _) H)
      apply ObO.valw
      · intro x; rfl
      · intro s' w' y Φ R hs H hG hΦ; simp only [List.nil_append, List.cons_append] at hG; have e6 : y 6 = _ := dh_get hG 6 rfl (by kernel_rfl); simp only [e6]; refine wantG rfl ?_; (go_simp; exact hΦ _ _ (Sub.refl _) H)
      clear H
      intro s3 w3 yy hs3 H hG
      replace H := (show Holds _ _ ([] ++ _) _ from H); rw [List.nil_append] at H
      simp only [List.nil_append, List.cons_append] at hG
      have e0 : yy 0 = _ := gh_get hG 0 rfl
      have e1 : yy 1 = _ := gh_get hG 1 rfl
      have e2 : yy 2 = _ := gh_get hG 2 rfl
      have e3 : yy 3 = _ := gh_get hG 3 rfl
      have e4 : yy 4 = _ := gh_get hG 4 rfl
      have e5 : yy 5 = _ := gh_get hG 5 rfl
      have e6 : yy 6 = _ := gh_get hG 6 rfl
      have e7 : yy 7 = _ := gh_get hG 7 rfl
      simp only [e0, e1, e2, e3, e4, e5, e6, e7]
      clear hG e0 e1 e2 e3 e4 e5 e6 e7
      replace H := H.forget hs3
      refine list_end ?_
      refine then_norm ?_
      refine wp_cond_split rfl (fun hc => ?_) (fun hc => ?_)
      · skip
        have hk2 := hc; simp only [Bool.and_eq_true, beq_iff_eq] at hk2
        refine wp_region_lit ?_
        apply seq_op rfl
        · intro Φ hΦ; go_simp; exact hΦ
        (try simp only [Act.put, List.setIfInBounds_toArray, List.set_cons_succ, List.set_cons_zero])
        apply seq_op rfl
        · intro Φ hΦ; first | (refine L_1 0 _ _ rfl (Try.isAgg23 _) rfl H rfl rfl ?_; exact hΦ) | (refine L_1 1 _ _ rfl (Try.isAgg23 _) rfl H rfl rfl ?_; exact hΦ) | (refine L_1 2 _ _ rfl (Try.isAgg23 _) rfl H rfl rfl ?_; exact hΦ) | (refine G_pNi 0 _ _ rfl (Try.isAgg23 _) rfl H rfl (Try.sizeOf23 _) ?_; exact hΦ) | (refine G_pNi 1 _ _ rfl (Try.isAgg23 _) rfl H rfl (Try.sizeOf23 _) ?_; exact hΦ) | (refine G_pNi 2 _ _ rfl (Try.isAgg23 _) rfl H rfl (Try.sizeOf23 _) ?_; exact hΦ)
        (try simp only [Act.put, List.setIfInBounds_toArray, List.set_cons_succ, List.set_cons_zero])
        apply seq_op rfl
        · intro Φ hΦ; go_simp; exact hΦ
        (try simp only [Act.put, List.setIfInBounds_toArray, List.set_cons_succ, List.set_cons_zero])
        refine OpG.list rfl ?_; first | (refine S_1 0 _ _ _ rfl (Try.sizeOf77 _) rfl rfl H rfl ?_ ?_ ?_; (focus (first | (simp [Value.oneCell']; done) | assumption)); (focus (simp; done))) | (refine G_setNi 0 _ _ _ rfl (Try.sizeOf77 _) rfl rfl ?_ H rfl rfl ?_; (focus (first | (simp [Value.oneCell']; done) | assumption))) | (refine S_1 1 _ _ _ rfl (Try.sizeOf77 _) rfl rfl H rfl ?_ ?_ ?_; (focus (first | (simp [Value.oneCell']; done) | assumption)); (focus (simp; done))) | (refine G_setNi 1 _ _ _ rfl (Try.sizeOf77 _) rfl rfl ?_ H rfl rfl ?_; (focus (first | (simp [Value.oneCell']; done) | assumption))) | (refine S_1 2 _ _ _ rfl (Try.sizeOf77 _) rfl rfl H rfl ?_ ?_ ?_; (focus (first | (simp [Value.oneCell']; done) | assumption)); (focus (simp; done))) | (refine G_setNi 2 _ _ _ rfl (Try.sizeOf77 _) rfl rfl ?_ H rfl rfl ?_; (focus (first | (simp [Value.oneCell']; done) | assumption)))
        clear H; intro w1 H; simp only [List.set_cons_succ, List.set_cons_zero] at H
        refine list_end ?_
        refine block_norm ?_
        refine then_norm ?_
        refine wp_seq ?_
        refine wp_region_lit ?_
        apply seq_op rfl
        · intro Φ hΦ; first | (refine L_1 0 _ _ rfl (Try.isAgg77 _) rfl H rfl rfl ?_; exact hΦ) | (refine L_1 1 _ _ rfl (Try.isAgg77 _) rfl H rfl rfl ?_; exact hΦ) | (refine L_1 2 _ _ rfl (Try.isAgg77 _) rfl H rfl rfl ?_; exact hΦ) | (refine G_pNi 0 _ _ rfl (Try.isAgg77 _) rfl H rfl (Try.sizeOf77 _) ?_; exact hΦ) | (refine G_pNi 1 _ _ rfl (Try.isAgg77 _) rfl H rfl (Try.sizeOf77 _) ?_; exact hΦ) | (refine G_pNi 2 _ _ rfl (Try.isAgg77 _) rfl H rfl (Try.sizeOf77 _) ?_; exact hΦ)
        (try simp only [Act.put, List.setIfInBounds_toArray, List.set_cons_succ, List.set_cons_zero])
        refine OpG.list rfl ?_; first | (refine S_1 0 _ _ _ rfl (Try.sizeOf77 _) rfl rfl H rfl ?_ ?_ ?_; (focus (first | (simp [Value.oneCell']; done) | assumption)); (focus (simp; done))) | (refine G_setNi 0 _ _ _ rfl (Try.sizeOf77 _) rfl rfl ?_ H rfl rfl ?_; (focus (first | (simp [Value.oneCell']; done) | assumption))) | (refine S_1 1 _ _ _ rfl (Try.sizeOf77 _) rfl rfl H rfl ?_ ?_ ?_; (focus (first | (simp [Value.oneCell']; done) | assumption)); (focus (simp; done))) | (refine G_setNi 1 _ _ _ rfl (Try.sizeOf77 _) rfl rfl ?_ H rfl rfl ?_; (focus (first | (simp [Value.oneCell']; done) | assumption))) | (refine S_1 2 _ _ _ rfl (Try.sizeOf77 _) rfl rfl H rfl ?_ ?_ ?_; (focus (first | (simp [Value.oneCell']; done) | assumption)); (focus (simp; done))) | (refine G_setNi 2 _ _ _ rfl (Try.sizeOf77 _) rfl rfl ?_ H rfl rfl ?_; (focus (first | (simp [Value.oneCell']; done) | assumption)))
        clear H; intro w1 H; simp only [List.set_cons_succ, List.set_cons_zero] at H
        refine list_end ?_
        refine then_norm ?_
        refine wp_ret ?_
        have hb : behindV ⟨whole, list, none_, value⟩ ⟨k, key, val, li, has, nl⟩ = ⟨true, li, false, 0⟩ := by
          unfold behindV
          simp [hk, hk3, hk2]
        simp only [hb]
        exact ret1 rfl (rv_cellN 0 H rfl rfl (Try.isAgg77 _) (Try.sizeOf77 _)) rfl ⟨_, s, rfl, Sub.refl s, H.drop.drop.drop, by exact ho0⟩
      · skip
        have hk2 : has = true → ¬ k = 2 := by intro h h2; rw [h, h2] at hc; cases hc
        refine wp_seq ?_
        refine wp_region_lit ?_
        apply seq_op rfl
        · intro Φ hΦ; go_simp; exact hΦ
        (try simp only [Act.put, List.setIfInBounds_toArray, List.set_cons_succ, List.set_cons_zero])
        apply seq_op rfl
        · intro Φ hΦ; first | (refine L_1 0 _ _ rfl (Try.isAgg4 _) rfl H rfl rfl ?_; exact hΦ) | (refine L_1 1 _ _ rfl (Try.isAgg4 _) rfl H rfl rfl ?_; exact hΦ) | (refine L_1 2 _ _ rfl (Try.isAgg4 _) rfl H rfl rfl ?_; exact hΦ) | (refine G_pNi 0 _ _ rfl (Try.isAgg4 _) rfl H rfl (Try.sizeOf4 _) ?_; exact hΦ) | (refine G_pNi 1 _ _ rfl (Try.isAgg4 _) rfl H rfl (Try.sizeOf4 _) ?_; exact hΦ) | (refine G_pNi 2 _ _ rfl (Try.isAgg4 _) rfl H rfl (Try.sizeOf4 _) ?_; exact hΦ)
        (try simp only [Act.put, List.setIfInBounds_toArray, List.set_cons_succ, List.set_cons_zero])
        apply seq_op rfl
        · intro Φ hΦ; go_simp; exact hΦ
        (try simp only [Act.put, List.setIfInBounds_toArray, List.set_cons_succ, List.set_cons_zero])
        refine list_end ?_
        refine then_norm ?_
        refine wp_cond_split rfl (fun hc => ?_) (fun hc => ?_)
        · skip
          have hk2 := hk2 hc
          refine wp_region_lit ?_
          apply seq_op rfl
          · intro Φ hΦ; go_simp; exact hΦ
          (try simp only [Act.put, List.setIfInBounds_toArray, List.set_cons_succ, List.set_cons_zero])
          apply seq_op rfl
          · intro Φ hΦ; first | (refine L_1 0 _ _ rfl (Try.isAgg4 _) rfl H rfl rfl ?_; exact hΦ) | (refine L_1 1 _ _ rfl (Try.isAgg4 _) rfl H rfl rfl ?_; exact hΦ) | (refine L_1 2 _ _ rfl (Try.isAgg4 _) rfl H rfl rfl ?_; exact hΦ) | (refine G_pNi 0 _ _ rfl (Try.isAgg4 _) rfl H rfl (Try.sizeOf4 _) ?_; exact hΦ) | (refine G_pNi 1 _ _ rfl (Try.isAgg4 _) rfl H rfl (Try.sizeOf4 _) ?_; exact hΦ) | (refine G_pNi 2 _ _ rfl (Try.isAgg4 _) rfl H rfl (Try.sizeOf4 _) ?_; exact hΦ)
          (try simp only [Act.put, List.setIfInBounds_toArray, List.set_cons_succ, List.set_cons_zero])
          apply seq_op rfl
          · intro Φ hΦ; go_simp; exact hΦ
          (try simp only [Act.put, List.setIfInBounds_toArray, List.set_cons_succ, List.set_cons_zero])
          apply seq_op rfl
          · intro Φ hΦ; first | (refine L_1 0 _ _ rfl (Try.isAgg3 _) rfl H rfl rfl ?_; exact hΦ) | (refine L_1 1 _ _ rfl (Try.isAgg3 _) rfl H rfl rfl ?_; exact hΦ) | (refine L_1 2 _ _ rfl (Try.isAgg3 _) rfl H rfl rfl ?_; exact hΦ) | (refine G_pNi 0 _ _ rfl (Try.isAgg3 _) rfl H rfl (Try.sizeOf3 _) ?_; exact hΦ) | (refine G_pNi 1 _ _ rfl (Try.isAgg3 _) rfl H rfl (Try.sizeOf3 _) ?_; exact hΦ) | (refine G_pNi 2 _ _ rfl (Try.isAgg3 _) rfl H rfl (Try.sizeOf3 _) ?_; exact hΦ)
          (try simp only [Act.put, List.setIfInBounds_toArray, List.set_cons_succ, List.set_cons_zero])
          apply seq_op rfl
          · intro Φ hΦ; go_simp; exact hΦ
          (try simp only [Act.put, List.setIfInBounds_toArray, List.set_cons_succ, List.set_cons_zero])
          refine OpG.list rfl ?_; first | (refine S_1 0 _ _ _ rfl (Try.sizeOf77 _) rfl rfl H rfl ?_ ?_ ?_; (focus (first | (simp [Value.oneCell']; done) | assumption)); (focus (simp; done))) | (refine G_setNi 0 _ _ _ rfl (Try.sizeOf77 _) rfl rfl ?_ H rfl rfl ?_; (focus (first | (simp [Value.oneCell']; done) | assumption))) | (refine S_1 1 _ _ _ rfl (Try.sizeOf77 _) rfl rfl H rfl ?_ ?_ ?_; (focus (first | (simp [Value.oneCell']; done) | assumption)); (focus (simp; done))) | (refine G_setNi 1 _ _ _ rfl (Try.sizeOf77 _) rfl rfl ?_ H rfl rfl ?_; (focus (first | (simp [Value.oneCell']; done) | assumption))) | (refine S_1 2 _ _ _ rfl (Try.sizeOf77 _) rfl rfl H rfl ?_ ?_ ?_; (focus (first | (simp [Value.oneCell']; done) | assumption)); (focus (simp; done))) | (refine G_setNi 2 _ _ _ rfl (Try.sizeOf77 _) rfl rfl ?_ H rfl rfl ?_; (focus (first | (simp [Value.oneCell']; done) | assumption)))
          clear H; intro w1 H; simp only [List.set_cons_succ, List.set_cons_zero] at H
          refine list_end ?_
          refine block_norm ?_
          refine then_norm ?_
          refine wp_seq ?_
          refine wp_region_lit ?_
          apply seq_op rfl
          · intro Φ hΦ; first | (refine L_1 0 _ _ rfl (Try.isAgg77 _) rfl H rfl rfl ?_; exact hΦ) | (refine L_1 1 _ _ rfl (Try.isAgg77 _) rfl H rfl rfl ?_; exact hΦ) | (refine L_1 2 _ _ rfl (Try.isAgg77 _) rfl H rfl rfl ?_; exact hΦ) | (refine G_pNi 0 _ _ rfl (Try.isAgg77 _) rfl H rfl (Try.sizeOf77 _) ?_; exact hΦ) | (refine G_pNi 1 _ _ rfl (Try.isAgg77 _) rfl H rfl (Try.sizeOf77 _) ?_; exact hΦ) | (refine G_pNi 2 _ _ rfl (Try.isAgg77 _) rfl H rfl (Try.sizeOf77 _) ?_; exact hΦ)
          (try simp only [Act.put, List.setIfInBounds_toArray, List.set_cons_succ, List.set_cons_zero])
          refine OpG.list rfl ?_; first | (refine S_1 0 _ _ _ rfl (Try.sizeOf77 _) rfl rfl H rfl ?_ ?_ ?_; (focus (first | (simp [Value.oneCell']; done) | assumption)); (focus (simp; done))) | (refine G_setNi 0 _ _ _ rfl (Try.sizeOf77 _) rfl rfl ?_ H rfl rfl ?_; (focus (first | (simp [Value.oneCell']; done) | assumption))) | (refine S_1 1 _ _ _ rfl (Try.sizeOf77 _) rfl rfl H rfl ?_ ?_ ?_; (focus (first | (simp [Value.oneCell']; done) | assumption)); (focus (simp; done))) | (refine G_setNi 1 _ _ _ rfl (Try.sizeOf77 _) rfl rfl ?_ H rfl rfl ?_; (focus (first | (simp [Value.oneCell']; done) | assumption))) | (refine S_1 2 _ _ _ rfl (Try.sizeOf77 _) rfl rfl H rfl ?_ ?_ ?_; (focus (first | (simp [Value.oneCell']; done) | assumption)); (focus (simp; done))) | (refine G_setNi 2 _ _ _ rfl (Try.sizeOf77 _) rfl rfl ?_ H rfl rfl ?_; (focus (first | (simp [Value.oneCell']; done) | assumption)))
          clear H; intro w1 H; simp only [List.set_cons_succ, List.set_cons_zero] at H
          refine list_end ?_
          refine then_norm ?_
          refine wp_ret ?_
          have hb : behindV ⟨whole, list, none_, value⟩ ⟨k, key, val, li, has, nl⟩ = ⟨true, [], nl, val⟩ := by
            unfold behindV
            simp [hk, hk3, hk2, hc]
          simp only [hb]
          exact ret1 rfl (rv_cellN 0 H rfl rfl (Try.isAgg77 _) (Try.sizeOf77 _)) rfl ⟨.slice none 0 0, s, rfl, Sub.refl s, H.drop.drop.drop, by exact Kin.Sl.nil⟩
        · skip
          refine wp_skip ?_
          refine block_norm ?_
          refine then_norm ?_
          refine wp_seq ?_
          refine wp_region_lit ?_
          apply seq_op rfl
          · intro Φ hΦ; first | (refine L_1 0 _ _ rfl (Try.isAgg77 _) rfl H rfl rfl ?_; exact hΦ) | (refine L_1 1 _ _ rfl (Try.isAgg77 _) rfl H rfl rfl ?_; exact hΦ) | (refine L_1 2 _ _ rfl (Try.isAgg77 _) rfl H rfl rfl ?_; exact hΦ) | (refine G_pNi 0 _ _ rfl (Try.isAgg77 _) rfl H rfl (Try.sizeOf77 _) ?_; exact hΦ) | (refine G_pNi 1 _ _ rfl (Try.isAgg77 _) rfl H rfl (Try.sizeOf77 _) ?_; exact hΦ) | (refine G_pNi 2 _ _ rfl (Try.isAgg77 _) rfl H rfl (Try.sizeOf77 _) ?_; exact hΦ)
          (try simp only [Act.put, List.setIfInBounds_toArray, List.set_cons_succ, List.set_cons_zero])
          refine OpG.list rfl ?_; first | (refine S_1 0 _ _ _ rfl (Try.sizeOf77 _) rfl rfl H rfl ?_ ?_ ?_; (focus (first | (simp [Value.oneCell']; done) | assumption)); (focus (simp; done))) | (refine G_setNi 0 _ _ _ rfl (Try.sizeOf77 _) rfl rfl ?_ H rfl rfl ?_; (focus (first | (simp [Value.oneCell']; done) | assumption))) | (refine S_1 1 _ _ _ rfl (Try.sizeOf77 _) rfl rfl H rfl ?_ ?_ ?_; (focus (first | (simp [Value.oneCell']; done) | assumption)); (focus (simp; done))) | (refine G_setNi 1 _ _ _ rfl (Try.sizeOf77 _) rfl rfl ?_ H rfl rfl ?_; (focus (first | (simp [Value.oneCell']; done) | assumption))) | (refine S_1 2 _ _ _ rfl (Try.sizeOf77 _) rfl rfl H rfl ?_ ?_ ?_; (focus (first | (simp [Value.oneCell']; done) | assumption)); (focus (simp; done))) | (refine G_setNi 2 _ _ _ rfl (Try.sizeOf77 _) rfl rfl ?_ H rfl rfl ?_; (focus (first | (simp [Value.oneCell']; done) | assumption)))
          clear H; intro w1 H; simp only [List.set_cons_succ, List.set_cons_zero] at H
          refine list_end ?_
          refine then_norm ?_
          refine wp_ret ?_
          have hb : behindV ⟨whole, list, none_, value⟩ ⟨k, key, val, li, has, nl⟩ = ⟨whole, list, none_, value⟩ := by
            unfold behindV
            simp [hk, hk3, hk2, hc]
          simp only [hb]
          exact ret1 rfl (rv_cellN 0 H rfl rfl (Try.isAgg77 _) (Try.sizeOf77 _)) rfl ⟨_, s, rfl, Sub.refl s, H.drop.drop.drop, by exact hv0⟩
end Go.Proofs.Yticpadjheelipaa
