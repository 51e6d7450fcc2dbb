/- The inner layer's reference: the first reads and the last writes, walked. -/
import Derived.Test.YticpadjheelipaaLike
import Derived.Test.YticpadjheelipaaRefP
import Derived.Lib.Hide
namespace Go.Proofs.Yticpadjheelipaa
open Go.RowKit
set_option linter.all false
set_option maxRecDepth 10000

def firstF (o : Op') : Bool → List Op' → Bool
  | b, [] => b
  | b, p :: r => firstF o (if (likeB p o && ((p.kind == 1 || p.kind == 3) || p.has)) = true then false else b) r
def lastF (o : Op') : Bool → List Op' → Bool
  | b, [] => b
  | b, p :: r => lastF o (if ((p.kind == 1 || p.kind == 3) && likeB p o) = true then false else b) r
def refExt (all : List Op') : Nat → List Op' → List Int
  | _, [] => []
  | i, o :: r => if (!((o.kind == 2 || o.kind == 4) && o.has)) = true then refExt all (i + 1) r else if firstF o true (all.take i) = true then (i : Int) :: refExt all (i + 1) r else refExt all (i + 1) r
def refFin : Nat → List Op' → List Int
  | _, [] => []
  | i, o :: r => if (!writesO o) = true then refFin (i + 1) r else if lastF o true r = true then (i : Int) :: refFin (i + 1) r else refFin (i + 1) r

set_option maxHeartbeats 4000000 in
theorem refExt_spec {E : World} {s : SH} {L : List HP} {w : World} {v : Value} {xs : List Op'} (hv : kOp.Sl s v xs) (H : Holds E s L w) :
    Calls Try.prog 19 #[v] w fun e w' => ∃ v' s', e = .returned v' ∧ Sub s s' ∧ kI.Sl s' v' (refExt xs 0 xs) ∧ Holds E s' L w' := by
  have hv0 := hv
  obtain ⟨A, cap, rfl, h1, h2, -⟩ := hv
  have h2' : xs.length * 64 ≤ 140737488355328 := h2
  clear h2
  go_enter Try.func19, Try.ntmps19
  refine wp_seq ?_
  refine wp_region_lit ?_
  apply seq_op rfl
  · intro Φ hΦ; go_simp; exact hΦ
  (try simp only [Act.put, List.setIfInBounds_toArray, List.set_cons_succ, List.set_cons_zero])
  refine list_end ?_
  refine then_norm ?_
  refine wp_seq ?_
  refine wp_region_lit ?_
  apply seq_op rfl
  · intro Φ hΦ; go_simp; exact hΦ
  (try simp only [Act.put, List.setIfInBounds_toArray, List.set_cons_succ, List.set_cons_zero])
  refine list_end ?_
  refine then_norm ?_
  refine wp_seq ?_
  refine wp_seq ?_
  refine wp_region_lit ?_
  apply seq_op rfl
  · intro Φ hΦ; go_simp; exact hΦ
  (try simp only [Act.put, List.setIfInBounds_toArray, List.set_cons_succ, List.set_cons_zero])
  apply seq_op rfl
  · intro Φ hΦ; go_simp; exact hΦ
  (try simp only [Act.put, List.setIfInBounds_toArray, List.set_cons_succ, List.set_cons_zero])
  apply seq_op rfl
  · intro Φ hΦ; go_simp; exact hΦ
  (try simp only [Act.put, List.setIfInBounds_toArray, List.set_cons_succ, List.set_cons_zero])
  refine list_end ?_
  refine then_norm ?_
  refine wp_block ?_
  refine wp_loopF [none, none, none, some 3, some 4, some 5, some 6, none, some 8, none, none, some 11, some 12, some 13, some 14, some 15, some 16, some 17, some 18, some 19, some 20, some 21, some 22, some 23, some 24, some 25, some 26, some 27, some 28, some 29, some 30, some 31, some 32, some 33, some 34, some 35, some 36, some 37, some 38, some 39, some 40, some 41, some 42, some 43, some 44, none] rfl (by simp) (fun f w => ∃ k : Nat, ∃ ys : List Int, k ≤ xs.length ∧ f 11 = .int .i64 k ∧ ys ++ refExt xs k (xs.drop k) = refExt xs 0 xs ∧ ys.length ≤ k ∧ Holds E s ((kI.sh s).Osl (f 3) ys :: L) w) (fun f w => xs.length - (intOf (f 11)).toNat) ?_ ?_
  · skip
    exact ⟨0, [], Nat.zero_le _, rfl, by rw [List.drop_zero]; rfl, Nat.le_refl _, Kin.Osl.nil H⟩
  · intro f w hI
    clear H
    obtain ⟨k, ys, hk, h11, hR, hyl, H⟩ := hI
    have HR := Lib.hid hR
    clear hR
    simp only [ovm, mixM]
    simp only [h11]
    clear h11
    obtain ⟨v3, hv3⟩ : ∃ v3, f 3 = v3 := ⟨_, rfl⟩
    simp only [hv3] at H
    simp only [hv3]
    clear hv3
    refine wp_seq ?_
    refine wp_region_lit ?_
    apply seq_op rfl
    · intro Φ hΦ; go_simp; exact hΦ
    (try simp only [Act.put, List.setIfInBounds_toArray, List.set_cons_succ, List.set_cons_zero])
    refine list_end ?_
    refine then_norm ?_
    refine wp_seq ?_
    refine wp_cond_split rfl (fun hc => ?_) (fun hc => ?_)
    · skip
      refine wp_skip ?_
      refine then_norm ?_
      refine wp_seq ?_
      refine wp_block ?_
      refine wp_seq ?_
      have hlt : k < xs.length := by simpa using hc
      obtain ⟨b0, off, o, Al, cl, rfl, hdr0, hmem, hC, hol, hkind, hkey, hval⟩ := elemOp hv0 k hlt
      have hdr := Lib.hid hdr0
      clear hdr0
      refine wp_region_lit ?_
      apply seq_op rfl
      · intro Φ hΦ; go_simp; exact hΦ
      (try simp only [Act.put, List.setIfInBounds_toArray, List.set_cons_succ, List.set_cons_zero])
      apply seq_op rfl
      · intro Φ hΦ; go_simp; exact hΦ
      (try simp only [Act.put, List.setIfInBounds_toArray, List.set_cons_succ, List.set_cons_zero])
      apply seq_op rfl
      · intro Φ hΦ; first | (refine L_1 0 _ _ rfl (Try.isAgg25 _) rfl H rfl rfl ?_; exact hΦ) | (refine L_1 1 _ _ rfl (Try.isAgg25 _) rfl H rfl rfl ?_; exact hΦ) | (refine L_1 2 _ _ rfl (Try.isAgg25 _) rfl H rfl rfl ?_; exact hΦ) | (refine G_pNi 0 _ _ rfl (Try.isAgg25 _) rfl H rfl (Try.sizeOf25 _) ?_; exact hΦ) | (refine G_pNi 1 _ _ rfl (Try.isAgg25 _) rfl H rfl (Try.sizeOf25 _) ?_; exact hΦ) | (refine G_pNi 2 _ _ rfl (Try.isAgg25 _) rfl H rfl (Try.sizeOf25 _) ?_; exact hΦ) | (refine G_s1 _ _ rfl (Try.isAgg25 _) rfl H hC 0 rfl rfl ?_; exact hΦ) | (refine G_s1 _ _ rfl (Try.isAgg25 _) rfl H hC _ rfl rfl ?_; exact hΦ) | (refine G_sN _ _ rfl (Try.isAgg25 _) rfl H hC (Try.sizeOf25 _) ?_; exact hΦ)
      (try simp only [Act.put, List.setIfInBounds_toArray, List.set_cons_succ, List.set_cons_zero])
      refine OpG.list rfl ?_; refine G_alloc 25 rfl (Try.zeroValue25 _) H ?_; clear H; intro b5 w1 H; (try simp only [Value.cells] at H)
      (try simp only [Act.put, List.setIfInBounds_toArray, List.set_cons_succ, List.set_cons_zero])
      apply seq_op rfl
      · intro Φ hΦ; go_simp; exact hΦ
      (try simp only [Act.put, List.setIfInBounds_toArray, List.set_cons_succ, List.set_cons_zero])
      refine OpG.list rfl ?_; first | (refine S_1 0 _ _ _ rfl (Try.sizeOf25 _) rfl rfl H rfl ?_ ?_ ?_; (focus (first | (simp [Value.oneCell']; done) | assumption)); (focus (simp; done))) | (refine G_setNi 0 _ _ _ rfl (Try.sizeOf25 _) rfl rfl ?_ H rfl rfl ?_; (focus (first | (simp [Value.oneCell']; done) | assumption))) | (refine S_1 1 _ _ _ rfl (Try.sizeOf25 _) rfl rfl H rfl ?_ ?_ ?_; (focus (first | (simp [Value.oneCell']; done) | assumption)); (focus (simp; done))) | (refine G_setNi 1 _ _ _ rfl (Try.sizeOf25 _) rfl rfl ?_ H rfl rfl ?_; (focus (first | (simp [Value.oneCell']; done) | assumption))) | (refine S_1 2 _ _ _ rfl (Try.sizeOf25 _) rfl rfl H rfl ?_ ?_ ?_; (focus (first | (simp [Value.oneCell']; done) | assumption)); (focus (simp; done))) | (refine G_setNi 2 _ _ _ rfl (Try.sizeOf25 _) rfl rfl ?_ H rfl rfl ?_; (focus (first | (simp [Value.oneCell']; done) | assumption)))
      clear H; intro w1 H; simp only [List.set_cons_succ, List.set_cons_zero] at H
      refine list_end ?_
      refine then_norm ?_
      refine wp_seq ?_
      refine wp_seq ?_
      refine wp_region_lit ?_
      apply seq_op rfl
      · intro Φ hΦ; first | (refine L_1 0 _ _ rfl (Try.isAgg25 _) rfl H rfl rfl ?_; exact hΦ) | (refine L_1 1 _ _ rfl (Try.isAgg25 _) rfl H rfl rfl ?_; exact hΦ) | (refine L_1 2 _ _ rfl (Try.isAgg25 _) rfl H rfl rfl ?_; exact hΦ) | (refine G_pNi 0 _ _ rfl (Try.isAgg25 _) rfl H rfl (Try.sizeOf25 _) ?_; exact hΦ) | (refine G_pNi 1 _ _ rfl (Try.isAgg25 _) rfl H rfl (Try.sizeOf25 _) ?_; exact hΦ) | (refine G_pNi 2 _ _ rfl (Try.isAgg25 _) rfl H rfl (Try.sizeOf25 _) ?_; exact hΦ) | (refine G_s1 _ _ rfl (Try.isAgg25 _) rfl H hC 0 rfl rfl ?_; exact hΦ) | (refine G_s1 _ _ rfl (Try.isAgg25 _) rfl H hC _ rfl rfl ?_; exact hΦ) | (refine G_sN _ _ rfl (Try.isAgg25 _) rfl H hC (Try.sizeOf25 _) ?_; exact hΦ)
      (try simp only [Act.put, List.setIfInBounds_toArray, List.set_cons_succ, List.set_cons_zero])
      refine seq_call rfl (fun Φ hΦ => by go_simp; (try exact hΦ)) (refRead_any H) ?_
      clear H; rintro e w1 ⟨rfl, H⟩; refine ⟨_, rfl, ?_⟩
      (try simp only [Act.put, List.setIfInBounds_toArray, List.set_cons_succ, List.set_cons_zero])
      apply seq_op rfl
      · intro Φ hΦ; go_simp; exact hΦ
      (try simp only [Act.put, List.setIfInBounds_toArray, List.set_cons_succ, List.set_cons_zero])
      refine list_end ?_
      refine then_norm ?_
      refine wp_cond_split rfl (fun hc => ?_) (fun hc => ?_)
      · skip
        have hcl := Lib.hid (show (!((o.kind == 2 || o.kind == 4) && o.has)) = true by first | exact hc | (simp only [Bool.not_and, Bool.not_or]; exact hc) | (simp only [writesO, Bool.not_and, Bool.not_or]; exact hc))
        refine wp_exit ?_
        refine then_exit ?_
        refine block_exit ?_
        refine then_norm ?_
        have hw := i64w (n := (k : Int) + 1) (by omega) (by omega)
        refine wp_region_lit ?_
        apply seq_op rfl
        · intro Φ hΦ; go_simp; exact hΦ
        (try simp only [Act.put, List.setIfInBounds_toArray, List.set_cons_succ, List.set_cons_zero])
        apply seq_op rfl
        · intro Φ hΦ; go_simp; exact hΦ
        (try simp only [Act.put, List.setIfInBounds_toArray, List.set_cons_succ, List.set_cons_zero])
        refine list_end ?_
        refine then_norm ?_
        refine ⟨⟨⟨rfl, rfl, rfl, rfl, rfl, rfl, rfl, rfl⟩, rfl⟩, ?_, by simp [intOf]; omega⟩
        exact ⟨k + 1, ys, by omega, by go_num, by rw [← HR.out, hdr.out]; simp only [refExt]; rw [if_pos hcl.out], by omega, H.drop⟩
      · skip
        have hcl := Lib.hid (show (!((o.kind == 2 || o.kind == 4) && o.has)) = false by first | exact hc | (simp only [Bool.not_and, Bool.not_or]; exact hc) | (simp only [writesO, Bool.not_and, Bool.not_or]; exact hc))
        refine wp_skip ?_
        refine then_norm ?_
        refine wp_seq ?_
        refine wp_region_lit ?_
        apply seq_op rfl
        · intro Φ hΦ; go_simp; exact hΦ
        (try simp only [Act.put, List.setIfInBounds_toArray, List.set_cons_succ, List.set_cons_zero])
        refine list_end ?_
        refine then_norm ?_
        refine wp_seq ?_
        refine wp_seq ?_
        refine wp_region_lit ?_
        apply seq_op rfl
        · intro Φ hΦ; go_simp; exact hΦ
        (try simp only [Act.put, List.setIfInBounds_toArray, List.set_cons_succ, List.set_cons_zero])
        apply seq_op rfl
        · intro Φ hΦ; go_simp; exact hΦ
        (try simp only [Act.put, List.setIfInBounds_toArray, List.set_cons_succ, List.set_cons_zero])
        apply seq_op rfl
        · intro Φ hΦ; refine G_slice_hN kOp_at _ _ rfl rfl rfl (by omega) ?_; exact hΦ
        (try simp only [Act.put, List.setIfInBounds_toArray, List.set_cons_succ, List.set_cons_zero])
        apply seq_op rfl
        · intro Φ hΦ; go_simp; exact hΦ
        (try simp only [Act.put, List.setIfInBounds_toArray, List.set_cons_succ, List.set_cons_zero])
        apply seq_op rfl
        · intro Φ hΦ; go_simp; exact hΦ
        (try simp only [Act.put, List.setIfInBounds_toArray, List.set_cons_succ, List.set_cons_zero])
        refine list_end ?_
        refine then_norm ?_
        refine wp_block ?_
        refine wp_loopF [none, none, none, none, none, none, some 6, none, some 8, none, none, none, none, none, none, none, none, none, none, none, none, none, none, some 23, some 24, some 25, some 26, some 27, some 28, some 29, some 30, some 31, some 32, some 33, some 34, some 35, some 36, some 37, some 38, none, none, none, none, none, none, none] rfl (by simp) (fun f w => ∃ j : Nat, ∃ b : Bool, j ≤ k ∧ f 23 = .int .i64 j ∧ f 6 = .bool b ∧ firstF o b ((xs.take k).drop j) = firstF o true (xs.take k) ∧ Holds E s (pt b5 (.cells #[.int .i64 o.kind, .string o.key, .int .i64 o.value, .slice Al o.list.length cl, .bool o.has, .bool o.isNil] 25 (0, 0)) :: (kI.sh s).Osl v3 ys :: L) w) (fun f w => k - (intOf (f 23)).toNat) ?_ ?_
        · skip
          exact ⟨0, true, Nat.zero_le _, rfl, rfl, by rw [List.drop_zero], H⟩
        · intro f w hI
          clear H
          obtain ⟨j, b, hj, hj2, h6, hZ, H⟩ := hI
          have HI := Lib.hid hZ
          clear hZ
          simp only [ovm, mixM]
          simp only [hj2, h6]
          clear hj2 h6
          refine wp_seq ?_
          refine wp_region_lit ?_
          apply seq_op rfl
          · intro Φ hΦ; go_simp; exact hΦ
          (try simp only [Act.put, List.setIfInBounds_toArray, List.set_cons_succ, List.set_cons_zero])
          refine list_end ?_
          refine then_norm ?_
          refine wp_seq ?_
          refine wp_cond_split rfl (fun hc => ?_) (fun hc => ?_)
          · skip
            refine wp_skip ?_
            refine then_norm ?_
            refine wp_seq ?_
            refine wp_block ?_
            refine wp_seq ?_
            have hlt2 : j < k := by simpa using hc
            have hrt := hv0.take k (by omega)
            have hlen : (xs.take k).length = k := by rw [List.length_take]; omega
            obtain ⟨b', off', q, Aq, cq, hab, hdq0, hmemq, hC, hql, hkindq, hkeyq, hvalq⟩ := elemOp hrt j (by omega)
            obtain ⟨rfl, rfl⟩ : b0 = b' ∧ off = off' := by simpa using hab
            clear hab
            have hdq := Lib.hid hdq0
            clear hdq0
            refine wp_region_lit ?_
            apply seq_op rfl
            · intro Φ hΦ; go_simp; exact hΦ
            (try simp only [Act.put, List.setIfInBounds_toArray, List.set_cons_succ, List.set_cons_zero])
            apply seq_op rfl
            · intro Φ hΦ; first | (refine L_1 0 _ _ rfl (Try.isAgg25 _) rfl H rfl rfl ?_; exact hΦ) | (refine L_1 1 _ _ rfl (Try.isAgg25 _) rfl H rfl rfl ?_; exact hΦ) | (refine L_1 2 _ _ rfl (Try.isAgg25 _) rfl H rfl rfl ?_; exact hΦ) | (refine G_pNi 0 _ _ rfl (Try.isAgg25 _) rfl H rfl (Try.sizeOf25 _) ?_; exact hΦ) | (refine G_pNi 1 _ _ rfl (Try.isAgg25 _) rfl H rfl (Try.sizeOf25 _) ?_; exact hΦ) | (refine G_pNi 2 _ _ rfl (Try.isAgg25 _) rfl H rfl (Try.sizeOf25 _) ?_; exact hΦ) | (refine G_s1 _ _ rfl (Try.isAgg25 _) rfl H hC 0 rfl rfl ?_; exact hΦ) | (refine G_s1 _ _ rfl (Try.isAgg25 _) rfl H hC _ rfl rfl ?_; exact hΦ) | (refine G_sN _ _ rfl (Try.isAgg25 _) rfl H hC (Try.sizeOf25 _) ?_; exact hΦ)
            (try simp only [Act.put, List.setIfInBounds_toArray, List.set_cons_succ, List.set_cons_zero])
            refine OpG.list rfl ?_; refine G_alloc 25 rfl (Try.zeroValue25 _) H ?_; clear H; intro b8 w1 H; (try simp only [Value.cells] at H)
            (try simp only [Act.put, List.setIfInBounds_toArray, List.set_cons_succ, List.set_cons_zero])
            refine OpG.list rfl ?_; first | (refine S_1 0 _ _ _ rfl (Try.sizeOf25 _) rfl rfl H rfl ?_ ?_ ?_; (focus (first | (simp [Value.oneCell']; done) | assumption)); (focus (simp; done))) | (refine G_setNi 0 _ _ _ rfl (Try.sizeOf25 _) rfl rfl ?_ H rfl rfl ?_; (focus (first | (simp [Value.oneCell']; done) | assumption))) | (refine S_1 1 _ _ _ rfl (Try.sizeOf25 _) rfl rfl H rfl ?_ ?_ ?_; (focus (first | (simp [Value.oneCell']; done) | assumption)); (focus (simp; done))) | (refine G_setNi 1 _ _ _ rfl (Try.sizeOf25 _) rfl rfl ?_ H rfl rfl ?_; (focus (first | (simp [Value.oneCell']; done) | assumption))) | (refine S_1 2 _ _ _ rfl (Try.sizeOf25 _) rfl rfl H rfl ?_ ?_ ?_; (focus (first | (simp [Value.oneCell']; done) | assumption)); (focus (simp; done))) | (refine G_setNi 2 _ _ _ rfl (Try.sizeOf25 _) rfl rfl ?_ H rfl rfl ?_; (focus (first | (simp [Value.oneCell']; done) | assumption)))
            clear H; intro w1 H; simp only [List.set_cons_succ, List.set_cons_zero] at H
            refine list_end ?_
            refine then_norm ?_
            refine wp_seq ?_
            refine wp_plain_obO (k := 11) (sz := 46) (List.replicate 11 11) (fun _ => []) rfl rfl (by kernel_rfl) (by kernel_rfl) H (by simp only [List.take_succ_cons, List.take_zero]; exact rfl)
              (fun y => by simp only [ov, Act.put, List.setIfInBounds_toArray, List.set_cons_succ, List.set_cons_zero, Nat.zero_add, Nat.reduceAdd]; exact rfl) ?_
            apply ObO.valw
            · intro x; rfl
            · intro s' w' y Φ R hs H hG hΦ; skip; refine wantG rfl ?_; first | (refine L_1 0 _ _ rfl (Try.isAgg25 _) rfl H rfl rfl ?_; exact hΦ _ _ (Sub.refl _) H) | (refine L_1 1 _ _ rfl (Try.isAgg25 _) rfl H rfl rfl ?_; exact hΦ _ _ (Sub.refl _) H) | (refine L_1 2 _ _ rfl (Try.isAgg25 _) rfl H rfl rfl ?_; exact hΦ _ _ (Sub.refl _) H) | (refine G_pNi 0 _ _ rfl (Try.isAgg25 _) rfl H rfl (Try.sizeOf25 _) ?_; exact hΦ _ _ (Sub.refl _) H) | (refine G_pNi 1 _ _ rfl (Try.isAgg25 _) rfl H rfl (Try.sizeOf25 _) ?_; exact hΦ _ _ (Sub.refl _) H) | (refine G_pNi 2 _ _ rfl (Try.isAgg25 _) rfl H rfl (Try.sizeOf25 _) ?_; exact hΦ _ _ (Sub.refl _) H) | (refine G_s1 _ _ rfl (Try.isAgg25 _) rfl H (hC.mono hs) 0 rfl rfl ?_; exact hΦ _ _ (Sub.refl _) H) | (refine G_s1 _ _ rfl (Try.isAgg25 _) rfl H (hC.mono hs) _ rfl rfl ?_; exact hΦ _ _ (Sub.refl _) H) | (refine G_sN _ _ rfl (Try.isAgg25 _) rfl H (hC.mono hs) (Try.sizeOf25 _) ?_; exact hΦ _ _ (Sub.refl _) H)
            apply ObO.valw
            · intro x; rfl
            · intro s' w' y Φ R hs H hG hΦ; skip; refine wantG rfl ?_; first | (refine L_1 0 _ _ rfl (Try.isAgg25 _) rfl H rfl rfl ?_; exact hΦ _ _ (Sub.refl _) H) | (refine L_1 1 _ _ rfl (Try.isAgg25 _) rfl H rfl rfl ?_; exact hΦ _ _ (Sub.refl _) H) | (refine L_1 2 _ _ rfl (Try.isAgg25 _) rfl H rfl rfl ?_; exact hΦ _ _ (Sub.refl _) H) | (refine G_pNi 0 _ _ rfl (Try.isAgg25 _) rfl H rfl (Try.sizeOf25 _) ?_; exact hΦ _ _ (Sub.refl _) H) | (refine G_pNi 1 _ _ rfl (Try.isAgg25 _) rfl H rfl (Try.sizeOf25 _) ?_; exact hΦ _ _ (Sub.refl _) H) | (refine G_pNi 2 _ _ rfl (Try.isAgg25 _) rfl H rfl (Try.sizeOf25 _) ?_; exact hΦ _ _ (Sub.refl _) H) | (refine G_s1 _ _ rfl (Try.isAgg25 _) rfl H (hC.mono hs) 0 rfl rfl ?_; exact hΦ _ _ (Sub.refl _) H) | (refine G_s1 _ _ rfl (Try.isAgg25 _) rfl H (hC.mono hs) _ rfl rfl ?_; exact hΦ _ _ (Sub.refl _) H) | (refine G_sN _ _ rfl (Try.isAgg25 _) rfl H (hC.mono hs) (Try.sizeOf25 _) ?_; exact hΦ _ _ (Sub.refl _) H)
            apply ObO.valw
            · intro x; rfl
            · intro s' w' y Φ R hs H hG hΦ; simp only [List.nil_append, List.cons_append] at hG; have e0 : y 0 = _ := dh_get hG 0 rfl (by kernel_rfl); have e1 : y 1 = _ := dh_get hG 1 rfl (by kernel_rfl); simp only [e0, e1]; refine wantG rfl ?_; (go_simp; refine (like_any H).mono ?_; rintro e w2 ⟨rfl, H⟩; exact ⟨_, rfl, hΦ _ _ (Sub.refl _) H⟩)
            apply ObO.valw
            · intro x; rfl
            · intro s' w' y Φ R hs H hG hΦ; simp only [List.nil_append, List.cons_append] at hG; have e2 : y 2 = _ := dh_get hG 2 rfl (by kernel_rfl); simp only [e2]; refine wantG rfl ?_; (go_simp; exact hΦ _ _ (Sub.refl _) H)
            apply ObO.valg
            · intro x; rfl
            · intro s' y hG; simp only [List.nil_append, List.cons_append] at hG; have eg : y 3 = _ := dh_get hG 3 rfl (by kernel_rfl); simp only [eg]; first | exact wanted_t rfl rfl rfl | exact wanted_vt rfl rfl rfl
            · intro hc s' w' y Φ R hs H hG hΦ; have HC := Lib.hid hc; clear hc; skip; first | (refine L_1 0 _ _ rfl (Try.isAgg25 _) rfl H rfl rfl ?_; exact hΦ _ _ (Sub.refl _) H) | (refine L_1 1 _ _ rfl (Try.isAgg25 _) rfl H rfl rfl ?_; exact hΦ _ _ (Sub.refl _) H) | (refine L_1 2 _ _ rfl (Try.isAgg25 _) rfl H rfl rfl ?_; exact hΦ _ _ (Sub.refl _) H) | (refine G_pNi 0 _ _ rfl (Try.isAgg25 _) rfl H rfl (Try.sizeOf25 _) ?_; exact hΦ _ _ (Sub.refl _) H) | (refine G_pNi 1 _ _ rfl (Try.isAgg25 _) rfl H rfl (Try.sizeOf25 _) ?_; exact hΦ _ _ (Sub.refl _) H) | (refine G_pNi 2 _ _ rfl (Try.isAgg25 _) rfl H rfl (Try.sizeOf25 _) ?_; exact hΦ _ _ (Sub.refl _) H) | (refine G_s1 _ _ rfl (Try.isAgg25 _) rfl H (hC.mono hs) 0 rfl rfl ?_; exact hΦ _ _ (Sub.refl _) H) | (refine G_s1 _ _ rfl (Try.isAgg25 _) rfl H (hC.mono hs) _ rfl rfl ?_; exact hΦ _ _ (Sub.refl _) H) | (refine G_sN _ _ rfl (Try.isAgg25 _) rfl H (hC.mono hs) (Try.sizeOf25 _) ?_; exact hΦ _ _ (Sub.refl _) H)
            apply ObO.valg
            · intro x; rfl
            · intro s' y hG; simp only [List.nil_append, List.cons_append] at hG; have eg : y 3 = _ := dh_get hG 3 rfl (by kernel_rfl); simp only [eg]; first | exact wanted_t rfl rfl rfl | exact wanted_vt rfl rfl rfl
            · intro hc s' w' y Φ R hs H hG hΦ; simp only [List.nil_append, List.cons_append] at hG; have e4 : y 4 = _ := dh_get hG 4 rfl (by kernel_rfl); (first | rw [vg_of hc] at e4 | rw [vg_of (and_l hc)] at e4 | rw [vg_of (and_l (and_l hc))] at e4 | rw [vg_of (and_l (and_l (and_l hc)))] at e4 | rw [vg_and hc] at e4 | skip); have HC := Lib.hid hc; clear hc; simp only [e4]; (go_simp; refine (refWrite_any H).mono ?_; rintro e w2 ⟨rfl, H⟩; exact ⟨_, rfl, hΦ _ _ (Sub.refl _) H⟩)
            apply ObO.valg
            · intro x; rfl
            · intro s' y hG; simp only [List.nil_append, List.cons_append] at hG; have eg : y 3 = _ := dh_get hG 3 rfl (by kernel_rfl); simp only [eg]; first | exact wanted_t rfl rfl rfl | exact wanted_vt rfl rfl rfl
            · intro hc s' w' y Φ R hs H hG hΦ; simp only [List.nil_append, List.cons_append] at hG; have e5 : y 5 = _ := dh_get hG 5 rfl (by kernel_rfl); (first | rw [vg_of hc] at e5 | rw [vg_of (and_l hc)] at e5 | rw [vg_of (and_l (and_l hc))] at e5 | rw [vg_of (and_l (and_l (and_l hc)))] at e5 | rw [vg_and hc] at e5 | skip); have HC := Lib.hid hc; clear hc; simp only [e5]; (go_simp; exact hΦ _ _ (Sub.refl _) H)
            apply ObO.valg
            · intro x; rfl
            · intro s' y hG; simp only [List.nil_append, List.cons_append] at hG; have eg : y 6 = _ := dh_get hG 6 rfl (by kernel_rfl); simp only [eg]; first | exact wanted_f rfl rfl rfl | exact wanted_vf rfl rfl rfl
            · intro hc s' w' y Φ R hs H hG hΦ; have HC := Lib.hid hc; clear hc; skip; (go_simp; exact hΦ _ _ (Sub.refl _) H)
            apply ObO.valg
            · intro x; rfl
            · intro s' y hG; simp only [List.nil_append, List.cons_append] at hG; have eg : y 6 = _ := dh_get hG 6 rfl (by kernel_rfl); simp only [eg]; first | exact wanted_f rfl rfl rfl | exact wanted_vf rfl rfl rfl
            · intro hc s' w' y Φ R hs H hG hΦ; simp only [List.nil_append, List.cons_append] at hG; have e7 : y 7 = _ := dh_get hG 7 rfl (by kernel_rfl); (first | rw [vg_of hc] at e7 | rw [vg_of (and_l hc)] at e7 | rw [vg_of (and_l (and_l hc))] at e7 | rw [vg_of (and_l (and_l (and_l hc)))] at e7 | rw [vg_and hc] at e7 | skip); have HC := Lib.hid hc; clear hc; simp only [e7]; first | (refine L_1 0 _ _ rfl (Try.isAgg4 _) rfl H rfl rfl ?_; exact hΦ _ _ (Sub.refl _) H) | (refine L_1 1 _ _ rfl (Try.isAgg4 _) rfl H rfl rfl ?_; exact hΦ _ _ (Sub.refl _) H) | (refine L_1 2 _ _ rfl (Try.isAgg4 _) rfl H rfl rfl ?_; exact hΦ _ _ (Sub.refl _) H) | (refine G_pNi 0 _ _ rfl (Try.isAgg4 _) rfl H rfl (Try.sizeOf4 _) ?_; exact hΦ _ _ (Sub.refl _) H) | (refine G_pNi 1 _ _ rfl (Try.isAgg4 _) rfl H rfl (Try.sizeOf4 _) ?_; exact hΦ _ _ (Sub.refl _) H) | (refine G_pNi 2 _ _ rfl (Try.isAgg4 _) rfl H rfl (Try.sizeOf4 _) ?_; exact hΦ _ _ (Sub.refl _) H) | (refine G_s1 _ _ rfl (Try.isAgg4 _) rfl H (hC.mono hs) 0 rfl rfl ?_; exact hΦ _ _ (Sub.refl _) H) | (refine G_s1 _ _ rfl (Try.isAgg4 _) rfl H (hC.mono hs) _ rfl rfl ?_; exact hΦ _ _ (Sub.refl _) H) | (refine G_sN _ _ rfl (Try.isAgg4 _) rfl H (hC.mono hs) (Try.sizeOf4 _) ?_; exact hΦ _ _ (Sub.refl _) H)
            apply ObO.valg
            · intro x; rfl
            · intro s' y hG; simp only [List.nil_append, List.cons_append] at hG; have eg : y 3 = _ := dh_get hG 3 rfl (by kernel_rfl); simp only [eg]; first | exact wanted_t rfl rfl rfl | exact wanted_vt rfl rfl rfl
            · intro hc s' w' y Φ R hs H hG hΦ; simp only [List.nil_append, List.cons_append] at hG; have e6 : y 6 = _ := dh_get hG 6 rfl (by kernel_rfl); have e8 : y 8 = _ := dh_get hG 8 rfl (by kernel_rfl); (first | rw [vg_of hc] at e6 | rw [vg_of (and_l hc)] at e6 | rw [vg_of (and_l (and_l hc))] at e6 | rw [vg_of (and_l (and_l (and_l hc)))] at e6 | rw [vg_and hc] at e6 | skip); (first | rw [vg_of hc] at e8 | rw [vg_of (and_l hc)] at e8 | rw [vg_of (and_l (and_l hc))] at e8 | rw [vg_of (and_l (and_l (and_l hc)))] at e8 | rw [vg_and hc] at e8 | skip); have HC := Lib.hid hc; clear hc; simp only [e6, e8]; (refine G_or _ _ _ rfl rfl rfl rfl ?_; exact hΦ _ _ (Sub.refl _) H)
            apply ObO.valw
            · intro x; rfl
            · intro s' w' y Φ R hs H hG hΦ; simp only [List.nil_append, List.cons_append] at hG; have e3 : y 3 = _ := dh_get hG 3 rfl (by kernel_rfl); have e9 : y 9 = _ := dh_get hG 9 rfl (by kernel_rfl); simp only [e3, e9]; refine wantG rfl ?_; (refine G_and _ _ _ rfl rfl rfl rfl ?_; exact hΦ _ _ (Sub.refl _) H)
            clear H
            intro s3 w3 yy hs3 H hG
            replace H := (show Holds _ _ ([] ++ _) _ from H); rw [List.nil_append] at H
            simp only [List.nil_append, List.cons_append] at hG
            have e0 : yy 0 = _ := gh_get hG 0 rfl
            have e1 : yy 1 = _ := gh_get hG 1 rfl
            have e2 : yy 2 = _ := gh_get hG 2 rfl
            have e3 : yy 3 = _ := gh_get hG 3 rfl
            have e4 : yy 4 = _ := gh_get hG 4 rfl
            have e5 : yy 5 = _ := gh_get hG 5 rfl
            have e6 : yy 6 = _ := gh_get hG 6 rfl
            have e7 : yy 7 = _ := gh_get hG 7 rfl
            have e8 : yy 8 = _ := gh_get hG 8 rfl
            have e9 : yy 9 = _ := gh_get hG 9 rfl
            have e10 : yy 10 = _ := gh_get hG 10 rfl
            simp only [e0, e1, e2, e3, e4, e5, e6, e7, e8, e9, e10]
            clear hG e0 e1 e2 e3 e4 e5 e6 e7 e8 e9 e10
            replace H := H.forget hs3
            refine list_end ?_
            refine then_norm ?_
            refine wp_cond_split rfl (fun hc => ?_) (fun hc => ?_)
            · skip
              refine wp_region_lit ?_
              apply seq_op rfl
              · intro Φ hΦ; go_simp; exact hΦ
              (try simp only [Act.put, List.setIfInBounds_toArray, List.set_cons_succ, List.set_cons_zero])
              refine list_end ?_
              refine block_norm ?_
              refine then_norm ?_
              have hw := i64w (n := (j : Int) + 1) (by omega) (by omega)
              refine wp_region_lit ?_
              apply seq_op rfl
              · intro Φ hΦ; go_simp; exact hΦ
              (try simp only [Act.put, List.setIfInBounds_toArray, List.set_cons_succ, List.set_cons_zero])
              apply seq_op rfl
              · intro Φ hΦ; go_simp; exact hΦ
              (try simp only [Act.put, List.setIfInBounds_toArray, List.set_cons_succ, List.set_cons_zero])
              refine list_end ?_
              refine then_norm ?_
              refine ⟨⟨⟨rfl, rfl, rfl, rfl, rfl, rfl, rfl, rfl, rfl, rfl, rfl, rfl, rfl, rfl, rfl, rfl, rfl, rfl, rfl, rfl, rfl, rfl, rfl, rfl, rfl, rfl, rfl, rfl, rfl⟩, rfl⟩, ?_, by simp [intOf]; omega⟩
              exact ⟨j + 1, false, by omega, by go_num, rfl, by rw [← HI.out, hdq.out]; simp only [firstF]; rw [if_pos (by exact hc)], H.drop⟩
            · skip
              refine wp_skip ?_
              refine block_norm ?_
              refine then_norm ?_
              have hw := i64w (n := (j : Int) + 1) (by omega) (by omega)
              refine wp_region_lit ?_
              apply seq_op rfl
              · intro Φ hΦ; go_simp; exact hΦ
              (try simp only [Act.put, List.setIfInBounds_toArray, List.set_cons_succ, List.set_cons_zero])
              apply seq_op rfl
              · intro Φ hΦ; go_simp; exact hΦ
              (try simp only [Act.put, List.setIfInBounds_toArray, List.set_cons_succ, List.set_cons_zero])
              refine list_end ?_
              refine then_norm ?_
              refine ⟨⟨⟨rfl, rfl, rfl, rfl, rfl, rfl, rfl, rfl, rfl, rfl, rfl, rfl, rfl, rfl, rfl, rfl, rfl, rfl, rfl, rfl, rfl, rfl, rfl, rfl, rfl, rfl, rfl, rfl, rfl⟩, rfl⟩, ?_, by simp [intOf]; omega⟩
              exact ⟨j + 1, b, by omega, by go_num, rfl, by rw [← HI.out, hdq.out]; simp only [firstF]; rw [if_neg (nt (by exact hc))], H.drop⟩
          · skip
            have hfin : k = j := by
              have : ¬ j < k := by simpa using hc
              omega
            subst hfin
            have hb2 := HI.out
            rw [show (xs.take k).drop k = [] from List.drop_of_length_le (by rw [List.length_take]; omega)] at hb2
            have HB := Lib.hid (show b = firstF o true (xs.take k) from hb2)
            clear HI hb2
            refine wp_exit ?_
            refine then_exit ?_
            refine then_exit ?_
            refine block_exit ?_
            refine then_norm ?_
            refine wp_seq ?_
            refine wp_region_lit ?_
            apply seq_op rfl
            · intro Φ hΦ; go_simp; exact hΦ
            (try simp only [Act.put, List.setIfInBounds_toArray, List.set_cons_succ, List.set_cons_zero])
            refine list_end ?_
            refine then_norm ?_
            refine wp_cond_split rfl (fun hc => ?_) (fun hc => ?_)
            · skip
              have hroom : (ys.length + 1) * kI.by_ ≤ 140737488355328 := by show (ys.length + 1) * 8 ≤ _; omega
              refine wp_region_lit ?_
              apply seq_op rfl
              · intro Φ hΦ; go_simp; exact hΦ
              (try simp only [Act.put, List.setIfInBounds_toArray, List.set_cons_succ, List.set_cons_zero])
              apply seq_op rfl
              · intro Φ hΦ; go_simp; exact hΦ
              (try simp only [Act.put, List.setIfInBounds_toArray, List.set_cons_succ, List.set_cons_zero])
              refine OpG.list rfl ?_; refine SL_1 rfl rfl Try.underlying23 Try.sizeOf3 Try.zeroValue3 rfl rfl (by decide) (by decide) H ?_; clear H; intro b42 w1 H; (try simp only [Value.cells] at H)
              (try simp only [Act.put, List.setIfInBounds_toArray, List.set_cons_succ, List.set_cons_zero])
              refine OpG.list rfl ?_; refine AP_1 1 kI_at _ _ rfl (show kI.K s (k : Int) [.int .i64 k] from ⟨rfl, by constructor <;> omega⟩) H rfl rfl rfl hroom ?_; clear H; intro v43 w1 H; (try simp only [List.set_cons_succ, List.set_cons_zero] at H)
              (try simp only [Act.put, List.setIfInBounds_toArray, List.set_cons_succ, List.set_cons_zero])
              apply seq_op rfl
              · intro Φ hΦ; go_simp; exact hΦ
              (try simp only [Act.put, List.setIfInBounds_toArray, List.set_cons_succ, List.set_cons_zero])
              refine list_end ?_
              refine block_norm ?_
              refine then_norm ?_
              have hw := i64w (n := (k : Int) + 1) (by omega) (by omega)
              refine wp_region_lit ?_
              apply seq_op rfl
              · intro Φ hΦ; go_simp; exact hΦ
              (try simp only [Act.put, List.setIfInBounds_toArray, List.set_cons_succ, List.set_cons_zero])
              apply seq_op rfl
              · intro Φ hΦ; go_simp; exact hΦ
              (try simp only [Act.put, List.setIfInBounds_toArray, List.set_cons_succ, List.set_cons_zero])
              refine list_end ?_
              refine then_norm ?_
              refine ⟨⟨⟨rfl, rfl, rfl, rfl, rfl, rfl, rfl, rfl⟩, rfl⟩, ?_, by simp [intOf]; omega⟩
              exact ⟨k + 1, ys ++ [(k : Int)], by omega, by go_num, by rw [List.append_assoc, ← HR.out, hdr.out]; simp only [refExt]; rw [if_neg (nt hcl.out), if_pos (by rw [← HB.out]; exact hc)]; rfl, by rw [List.length_append, List.length_singleton]; omega, H.drop⟩
            · skip
              refine wp_skip ?_
              refine block_norm ?_
              refine then_norm ?_
              have hw := i64w (n := (k : Int) + 1) (by omega) (by omega)
              refine wp_region_lit ?_
              apply seq_op rfl
              · intro Φ hΦ; go_simp; exact hΦ
              (try simp only [Act.put, List.setIfInBounds_toArray, List.set_cons_succ, List.set_cons_zero])
              apply seq_op rfl
              · intro Φ hΦ; go_simp; exact hΦ
              (try simp only [Act.put, List.setIfInBounds_toArray, List.set_cons_succ, List.set_cons_zero])
              refine list_end ?_
              refine then_norm ?_
              refine ⟨⟨⟨rfl, rfl, rfl, rfl, rfl, rfl, rfl, rfl⟩, rfl⟩, ?_, by simp [intOf]; omega⟩
              exact ⟨k + 1, ys, by omega, by go_num, by rw [← HR.out, hdr.out]; simp only [refExt]; rw [if_neg (nt hcl.out), if_neg (nt (by rw [← HB.out]; exact hc))], by omega, H.drop⟩
    · skip
      have hfin : k = xs.length := by
        have : ¬ k < xs.length := by simpa using hc
        omega
      subst hfin
      have hys := HR.out
      rw [List.drop_length, show refExt xs xs.length [] = [] from rfl, List.append_nil] at hys
      subst hys
      clear HR
      obtain ⟨s2, hs1, H, hrd0⟩ := Kin.Osl.fr H
      have hrd := hrd0.unsh hs1
      clear hrd0
      refine wp_exit ?_
      refine then_exit ?_
      refine then_exit ?_
      refine block_exit ?_
      refine then_norm ?_
      refine wp_seq ?_
      refine wp_region_lit ?_
      apply seq_op rfl
      · intro Φ hΦ; go_simp; exact hΦ
      (try simp only [Act.put, List.setIfInBounds_toArray, List.set_cons_succ, List.set_cons_zero])
      apply seq_op rfl
      · intro Φ hΦ; go_simp; exact hΦ
      (try simp only [Act.put, List.setIfInBounds_toArray, List.set_cons_succ, List.set_cons_zero])
      refine list_end ?_
      refine then_norm ?_
      refine wp_ret ?_
      exact ret1 rfl (rv_tmp rfl) rfl ⟨_, s2, rfl, hs1, hrd, H⟩

set_option maxHeartbeats 4000000 in
theorem refFin_spec {E : World} {s : SH} {L : List HP} {w : World} {v : Value} {xs : List Op'} (hv : kOp.Sl s v xs) (H : Holds E s L w) :
    Calls Try.prog 20 #[v] w fun e w' => ∃ v' s', e = .returned v' ∧ Sub s s' ∧ kI.Sl s' v' (refFin 0 xs) ∧ Holds E s' L w' := by
  have hv0 := hv
  obtain ⟨A, cap, rfl, h1, h2, -⟩ := hv
  have h2' : xs.length * 64 ≤ 140737488355328 := h2
  clear h2
  go_enter Try.func20, Try.ntmps20
  refine wp_seq ?_
  refine wp_region_lit ?_
  apply seq_op rfl
  · intro Φ hΦ; go_simp; exact hΦ
  (try simp only [Act.put, List.setIfInBounds_toArray, List.set_cons_succ, List.set_cons_zero])
  refine list_end ?_
  refine then_norm ?_
  refine wp_seq ?_
  refine wp_region_lit ?_
  apply seq_op rfl
  · intro Φ hΦ; go_simp; exact hΦ
  (try simp only [Act.put, List.setIfInBounds_toArray, List.set_cons_succ, List.set_cons_zero])
  refine list_end ?_
  refine then_norm ?_
  refine wp_seq ?_
  refine wp_seq ?_
  refine wp_region_lit ?_
  apply seq_op rfl
  · intro Φ hΦ; go_simp; exact hΦ
  (try simp only [Act.put, List.setIfInBounds_toArray, List.set_cons_succ, List.set_cons_zero])
  apply seq_op rfl
  · intro Φ hΦ; go_simp; exact hΦ
  (try simp only [Act.put, List.setIfInBounds_toArray, List.set_cons_succ, List.set_cons_zero])
  apply seq_op rfl
  · intro Φ hΦ; go_simp; exact hΦ
  (try simp only [Act.put, List.setIfInBounds_toArray, List.set_cons_succ, List.set_cons_zero])
  refine list_end ?_
  refine then_norm ?_
  refine wp_block ?_
  refine wp_loopF [none, none, none, some 3, some 4, some 5, some 6, none, some 8, none, none, some 11, some 12, some 13, some 14, some 15, some 16, some 17, some 18, some 19, some 20, some 21, some 22, some 23, some 24, some 25, some 26, some 27, some 28, some 29, some 30, some 31, some 32, some 33, some 34, some 35, some 36, some 37, some 38, some 39, some 40, some 41, none] rfl (by simp) (fun f w => ∃ k : Nat, ∃ ys : List Int, k ≤ xs.length ∧ f 11 = .int .i64 k ∧ ys ++ refFin k (xs.drop k) = refFin 0 xs ∧ ys.length ≤ k ∧ Holds E s ((kI.sh s).Osl (f 3) ys :: L) w) (fun f w => xs.length - (intOf (f 11)).toNat) ?_ ?_
  · skip
    exact ⟨0, [], Nat.zero_le _, rfl, by rw [List.drop_zero]; rfl, Nat.le_refl _, Kin.Osl.nil H⟩
  · intro f w hI
    clear H
    obtain ⟨k, ys, hk, h11, hR, hyl, H⟩ := hI
    have HR := Lib.hid hR
    clear hR
    simp only [ovm, mixM]
    simp only [h11]
    clear h11
    obtain ⟨v3, hv3⟩ : ∃ v3, f 3 = v3 := ⟨_, rfl⟩
    simp only [hv3] at H
    simp only [hv3]
    clear hv3
    refine wp_seq ?_
    refine wp_region_lit ?_
    apply seq_op rfl
    · intro Φ hΦ; go_simp; exact hΦ
    (try simp only [Act.put, List.setIfInBounds_toArray, List.set_cons_succ, List.set_cons_zero])
    refine list_end ?_
    refine then_norm ?_
    refine wp_seq ?_
    refine wp_cond_split rfl (fun hc => ?_) (fun hc => ?_)
    · skip
      refine wp_skip ?_
      refine then_norm ?_
      refine wp_seq ?_
      refine wp_block ?_
      refine wp_seq ?_
      have hlt : k < xs.length := by simpa using hc
      obtain ⟨b0, off, o, Al, cl, rfl, hdr0, hmem, hC, hol, hkind, hkey, hval⟩ := elemOp hv0 k hlt
      have hdr := Lib.hid hdr0
      clear hdr0
      refine wp_region_lit ?_
      apply seq_op rfl
      · intro Φ hΦ; go_simp; exact hΦ
      (try simp only [Act.put, List.setIfInBounds_toArray, List.set_cons_succ, List.set_cons_zero])
      apply seq_op rfl
      · intro Φ hΦ; go_simp; exact hΦ
      (try simp only [Act.put, List.setIfInBounds_toArray, List.set_cons_succ, List.set_cons_zero])
      apply seq_op rfl
      · intro Φ hΦ; first | (refine L_1 0 _ _ rfl (Try.isAgg25 _) rfl H rfl rfl ?_; exact hΦ) | (refine L_1 1 _ _ rfl (Try.isAgg25 _) rfl H rfl rfl ?_; exact hΦ) | (refine L_1 2 _ _ rfl (Try.isAgg25 _) rfl H rfl rfl ?_; exact hΦ) | (refine G_pNi 0 _ _ rfl (Try.isAgg25 _) rfl H rfl (Try.sizeOf25 _) ?_; exact hΦ) | (refine G_pNi 1 _ _ rfl (Try.isAgg25 _) rfl H rfl (Try.sizeOf25 _) ?_; exact hΦ) | (refine G_pNi 2 _ _ rfl (Try.isAgg25 _) rfl H rfl (Try.sizeOf25 _) ?_; exact hΦ) | (refine G_s1 _ _ rfl (Try.isAgg25 _) rfl H hC 0 rfl rfl ?_; exact hΦ) | (refine G_s1 _ _ rfl (Try.isAgg25 _) rfl H hC _ rfl rfl ?_; exact hΦ) | (refine G_sN _ _ rfl (Try.isAgg25 _) rfl H hC (Try.sizeOf25 _) ?_; exact hΦ)
      (try simp only [Act.put, List.setIfInBounds_toArray, List.set_cons_succ, List.set_cons_zero])
      refine OpG.list rfl ?_; refine G_alloc 25 rfl (Try.zeroValue25 _) H ?_; clear H; intro b5 w1 H; (try simp only [Value.cells] at H)
      (try simp only [Act.put, List.setIfInBounds_toArray, List.set_cons_succ, List.set_cons_zero])
      apply seq_op rfl
      · intro Φ hΦ; go_simp; exact hΦ
      (try simp only [Act.put, List.setIfInBounds_toArray, List.set_cons_succ, List.set_cons_zero])
      refine OpG.list rfl ?_; first | (refine S_1 0 _ _ _ rfl (Try.sizeOf25 _) rfl rfl H rfl ?_ ?_ ?_; (focus (first | (simp [Value.oneCell']; done) | assumption)); (focus (simp; done))) | (refine G_setNi 0 _ _ _ rfl (Try.sizeOf25 _) rfl rfl ?_ H rfl rfl ?_; (focus (first | (simp [Value.oneCell']; done) | assumption))) | (refine S_1 1 _ _ _ rfl (Try.sizeOf25 _) rfl rfl H rfl ?_ ?_ ?_; (focus (first | (simp [Value.oneCell']; done) | assumption)); (focus (simp; done))) | (refine G_setNi 1 _ _ _ rfl (Try.sizeOf25 _) rfl rfl ?_ H rfl rfl ?_; (focus (first | (simp [Value.oneCell']; done) | assumption))) | (refine S_1 2 _ _ _ rfl (Try.sizeOf25 _) rfl rfl H rfl ?_ ?_ ?_; (focus (first | (simp [Value.oneCell']; done) | assumption)); (focus (simp; done))) | (refine G_setNi 2 _ _ _ rfl (Try.sizeOf25 _) rfl rfl ?_ H rfl rfl ?_; (focus (first | (simp [Value.oneCell']; done) | assumption)))
      clear H; intro w1 H; simp only [List.set_cons_succ, List.set_cons_zero] at H
      refine list_end ?_
      refine then_norm ?_
      refine wp_seq ?_
      refine wp_seq ?_
      refine wp_region_lit ?_
      apply seq_op rfl
      · intro Φ hΦ; first | (refine L_1 0 _ _ rfl (Try.isAgg25 _) rfl H rfl rfl ?_; exact hΦ) | (refine L_1 1 _ _ rfl (Try.isAgg25 _) rfl H rfl rfl ?_; exact hΦ) | (refine L_1 2 _ _ rfl (Try.isAgg25 _) rfl H rfl rfl ?_; exact hΦ) | (refine G_pNi 0 _ _ rfl (Try.isAgg25 _) rfl H rfl (Try.sizeOf25 _) ?_; exact hΦ) | (refine G_pNi 1 _ _ rfl (Try.isAgg25 _) rfl H rfl (Try.sizeOf25 _) ?_; exact hΦ) | (refine G_pNi 2 _ _ rfl (Try.isAgg25 _) rfl H rfl (Try.sizeOf25 _) ?_; exact hΦ) | (refine G_s1 _ _ rfl (Try.isAgg25 _) rfl H hC 0 rfl rfl ?_; exact hΦ) | (refine G_s1 _ _ rfl (Try.isAgg25 _) rfl H hC _ rfl rfl ?_; exact hΦ) | (refine G_sN _ _ rfl (Try.isAgg25 _) rfl H hC (Try.sizeOf25 _) ?_; exact hΦ)
      (try simp only [Act.put, List.setIfInBounds_toArray, List.set_cons_succ, List.set_cons_zero])
      refine seq_call rfl (fun Φ hΦ => by go_simp; (try exact hΦ)) (refWrite_any H) ?_
      clear H; rintro e w1 ⟨rfl, H⟩; refine ⟨_, rfl, ?_⟩
      (try simp only [Act.put, List.setIfInBounds_toArray, List.set_cons_succ, List.set_cons_zero])
      apply seq_op rfl
      · intro Φ hΦ; go_simp; exact hΦ
      (try simp only [Act.put, List.setIfInBounds_toArray, List.set_cons_succ, List.set_cons_zero])
      refine list_end ?_
      refine then_norm ?_
      refine wp_cond_split rfl (fun hc => ?_) (fun hc => ?_)
      · skip
        have hcl := Lib.hid (show (!writesO o) = true by first | exact hc | (simp only [Bool.not_and, Bool.not_or]; exact hc) | (simp only [writesO, Bool.not_and, Bool.not_or]; exact hc))
        refine wp_exit ?_
        refine then_exit ?_
        refine block_exit ?_
        refine then_norm ?_
        have hw := i64w (n := (k : Int) + 1) (by omega) (by omega)
        refine wp_region_lit ?_
        apply seq_op rfl
        · intro Φ hΦ; go_simp; exact hΦ
        (try simp only [Act.put, List.setIfInBounds_toArray, List.set_cons_succ, List.set_cons_zero])
        apply seq_op rfl
        · intro Φ hΦ; go_simp; exact hΦ
        (try simp only [Act.put, List.setIfInBounds_toArray, List.set_cons_succ, List.set_cons_zero])
        refine list_end ?_
        refine then_norm ?_
        refine ⟨⟨⟨rfl, rfl, rfl, rfl, rfl, rfl, rfl, rfl⟩, rfl⟩, ?_, by simp [intOf]; omega⟩
        exact ⟨k + 1, ys, by omega, by go_num, by rw [← HR.out, hdr.out]; simp only [refFin]; rw [if_pos hcl.out], by omega, H.drop⟩
      · skip
        have hcl := Lib.hid (show (!writesO o) = false by first | exact hc | (simp only [Bool.not_and, Bool.not_or]; exact hc) | (simp only [writesO, Bool.not_and, Bool.not_or]; exact hc))
        refine wp_skip ?_
        refine then_norm ?_
        refine wp_seq ?_
        refine wp_region_lit ?_
        apply seq_op rfl
        · intro Φ hΦ; go_simp; exact hΦ
        (try simp only [Act.put, List.setIfInBounds_toArray, List.set_cons_succ, List.set_cons_zero])
        refine list_end ?_
        refine then_norm ?_
        refine wp_seq ?_
        refine wp_seq ?_
        obtain ⟨m, hm1, hm2⟩ : ∃ m, k < m ∧ m ≤ k + 1 := ⟨k + 1, by omega, by omega⟩
        have hw7 : IntKind.i64.wrap ((k : Int) + 1) = (m : Int) := by rw [i64w (by omega) (by omega)]; omega
        refine wp_region_lit ?_
        apply seq_op rfl
        · intro Φ hΦ; go_simp; exact hΦ
        (try simp only [Act.put, List.setIfInBounds_toArray, List.set_cons_succ, List.set_cons_zero])
        apply seq_op rfl
        · intro Φ hΦ; go_simp; exact hΦ
        (try simp only [Act.put, List.setIfInBounds_toArray, List.set_cons_succ, List.set_cons_zero])
        apply seq_op rfl
        · intro Φ hΦ; go_simp; exact hΦ
        (try simp only [Act.put, List.setIfInBounds_toArray, List.set_cons_succ, List.set_cons_zero])
        apply seq_op rfl
        · intro Φ hΦ; refine G_slice_lN kOp_at _ _ rfl rfl rfl (by omega) ?_; exact hΦ
        (try simp only [Act.put, List.setIfInBounds_toArray, List.set_cons_succ, List.set_cons_zero])
        apply seq_op rfl
        · intro Φ hΦ; go_simp; exact hΦ
        (try simp only [Act.put, List.setIfInBounds_toArray, List.set_cons_succ, List.set_cons_zero])
        apply seq_op rfl
        · intro Φ hΦ; go_simp; exact hΦ
        (try simp only [Act.put, List.setIfInBounds_toArray, List.set_cons_succ, List.set_cons_zero])
        refine list_end ?_
        clear hw7
        obtain ⟨A7, hA7⟩ : ∃ A7, dropA (some ⟨b0, off, none⟩) cap m kOp.sz = A7 := ⟨_, rfl⟩
        have hvt := hv0.drop m (by omega)
        rw [hA7] at hvt
        simp only [hA7]
        clear hA7
        obtain ⟨c7, hc7⟩ : ∃ c7, cap - m = c7 := ⟨_, rfl⟩
        rw [hc7] at hvt
        simp only [hc7]
        clear hc7
        obtain ⟨n7, hn7, hn8⟩ : ∃ n7, xs.length - m = n7 ∧ n7 + m = xs.length := ⟨_, rfl, by omega⟩
        rw [hn7] at hvt
        simp only [hn7]
        clear hn7
        refine then_norm ?_
        refine wp_block ?_
        refine wp_loopF [none, none, none, none, none, none, some 6, none, some 8, none, none, none, none, none, none, none, none, none, none, none, none, none, none, none, some 24, some 25, some 26, some 27, some 28, some 29, some 30, some 31, some 32, some 33, some 34, some 35, none, none, none, none, none, none, none] rfl (by simp) (fun f w => ∃ j : Nat, ∃ b : Bool, j ≤ n7 ∧ f 24 = .int .i64 j ∧ f 6 = .bool b ∧ lastF o b ((xs.drop m).drop j) = lastF o true (xs.drop m) ∧ Holds E s (pt b5 (.cells #[.int .i64 o.kind, .string o.key, .int .i64 o.value, .slice Al o.list.length cl, .bool o.has, .bool o.isNil] 25 (0, 0)) :: (kI.sh s).Osl v3 ys :: L) w) (fun f w => n7 - (intOf (f 24)).toNat) ?_ ?_
        · skip
          exact ⟨0, true, Nat.zero_le _, rfl, rfl, by rw [List.drop_zero], H⟩
        · intro f w hI
          clear H
          obtain ⟨j, b, hj, hj2, h6, hZ, H⟩ := hI
          have HI := Lib.hid hZ
          clear hZ
          simp only [ovm, mixM]
          simp only [hj2, h6]
          clear hj2 h6
          refine wp_seq ?_
          refine wp_region_lit ?_
          apply seq_op rfl
          · intro Φ hΦ; go_simp; exact hΦ
          (try simp only [Act.put, List.setIfInBounds_toArray, List.set_cons_succ, List.set_cons_zero])
          refine list_end ?_
          refine then_norm ?_
          refine wp_seq ?_
          refine wp_cond_split rfl (fun hc => ?_) (fun hc => ?_)
          · skip
            refine wp_skip ?_
            refine then_norm ?_
            refine wp_seq ?_
            refine wp_block ?_
            refine wp_seq ?_
            have hlt2 : j < n7 := by simpa using hc
            have hlen : (xs.drop m).length = n7 := by rw [List.length_drop]; omega
            obtain ⟨b', off', q, Aq, cq, rfl, hdq0, hmemq, hC, hql, hkindq, hkeyq, hvalq⟩ := elemOp hvt j (by omega)
            have hdq := Lib.hid hdq0
            clear hdq0
            refine wp_region_lit ?_
            apply seq_op rfl
            · intro Φ hΦ; go_simp; exact hΦ
            (try simp only [Act.put, List.setIfInBounds_toArray, List.set_cons_succ, List.set_cons_zero])
            apply seq_op rfl
            · intro Φ hΦ; first | (refine L_1 0 _ _ rfl (Try.isAgg25 _) rfl H rfl rfl ?_; exact hΦ) | (refine L_1 1 _ _ rfl (Try.isAgg25 _) rfl H rfl rfl ?_; exact hΦ) | (refine L_1 2 _ _ rfl (Try.isAgg25 _) rfl H rfl rfl ?_; exact hΦ) | (refine G_pNi 0 _ _ rfl (Try.isAgg25 _) rfl H rfl (Try.sizeOf25 _) ?_; exact hΦ) | (refine G_pNi 1 _ _ rfl (Try.isAgg25 _) rfl H rfl (Try.sizeOf25 _) ?_; exact hΦ) | (refine G_pNi 2 _ _ rfl (Try.isAgg25 _) rfl H rfl (Try.sizeOf25 _) ?_; exact hΦ) | (refine G_s1 _ _ rfl (Try.isAgg25 _) rfl H hC 0 rfl rfl ?_; exact hΦ) | (refine G_s1 _ _ rfl (Try.isAgg25 _) rfl H hC _ rfl rfl ?_; exact hΦ) | (refine G_sN _ _ rfl (Try.isAgg25 _) rfl H hC (Try.sizeOf25 _) ?_; exact hΦ)
            (try simp only [Act.put, List.setIfInBounds_toArray, List.set_cons_succ, List.set_cons_zero])
            refine OpG.list rfl ?_; refine G_alloc 25 rfl (Try.zeroValue25 _) H ?_; clear H; intro b8 w1 H; (try simp only [Value.cells] at H)
            (try simp only [Act.put, List.setIfInBounds_toArray, List.set_cons_succ, List.set_cons_zero])
            refine OpG.list rfl ?_; first | (refine S_1 0 _ _ _ rfl (Try.sizeOf25 _) rfl rfl H rfl ?_ ?_ ?_; (focus (first | (simp [Value.oneCell']; done) | assumption)); (focus (simp; done))) | (refine G_setNi 0 _ _ _ rfl (Try.sizeOf25 _) rfl rfl ?_ H rfl rfl ?_; (focus (first | (simp [Value.oneCell']; done) | assumption))) | (refine S_1 1 _ _ _ rfl (Try.sizeOf25 _) rfl rfl H rfl ?_ ?_ ?_; (focus (first | (simp [Value.oneCell']; done) | assumption)); (focus (simp; done))) | (refine G_setNi 1 _ _ _ rfl (Try.sizeOf25 _) rfl rfl ?_ H rfl rfl ?_; (focus (first | (simp [Value.oneCell']; done) | assumption))) | (refine S_1 2 _ _ _ rfl (Try.sizeOf25 _) rfl rfl H rfl ?_ ?_ ?_; (focus (first | (simp [Value.oneCell']; done) | assumption)); (focus (simp; done))) | (refine G_setNi 2 _ _ _ rfl (Try.sizeOf25 _) rfl rfl ?_ H rfl rfl ?_; (focus (first | (simp [Value.oneCell']; done) | assumption)))
            clear H; intro w1 H; simp only [List.set_cons_succ, List.set_cons_zero] at H
            refine list_end ?_
            refine then_norm ?_
            refine wp_seq ?_
            refine wp_plain_obO (k := 7) (sz := 43) (List.replicate 7 7) (fun _ => []) rfl rfl (by kernel_rfl) (by kernel_rfl) H (by simp only [List.take_succ_cons, List.take_zero]; exact rfl)
              (fun y => by simp only [ov, Act.put, List.setIfInBounds_toArray, List.set_cons_succ, List.set_cons_zero, Nat.zero_add, Nat.reduceAdd]; exact rfl) ?_
            apply ObO.valw
            · intro x; rfl
            · intro s' w' y Φ R hs H hG hΦ; skip; refine wantG rfl ?_; first | (refine L_1 0 _ _ rfl (Try.isAgg25 _) rfl H rfl rfl ?_; exact hΦ _ _ (Sub.refl _) H) | (refine L_1 1 _ _ rfl (Try.isAgg25 _) rfl H rfl rfl ?_; exact hΦ _ _ (Sub.refl _) H) | (refine L_1 2 _ _ rfl (Try.isAgg25 _) rfl H rfl rfl ?_; exact hΦ _ _ (Sub.refl _) H) | (refine G_pNi 0 _ _ rfl (Try.isAgg25 _) rfl H rfl (Try.sizeOf25 _) ?_; exact hΦ _ _ (Sub.refl _) H) | (refine G_pNi 1 _ _ rfl (Try.isAgg25 _) rfl H rfl (Try.sizeOf25 _) ?_; exact hΦ _ _ (Sub.refl _) H) | (refine G_pNi 2 _ _ rfl (Try.isAgg25 _) rfl H rfl (Try.sizeOf25 _) ?_; exact hΦ _ _ (Sub.refl _) H) | (refine G_s1 _ _ rfl (Try.isAgg25 _) rfl H (hC.mono hs) 0 rfl rfl ?_; exact hΦ _ _ (Sub.refl _) H) | (refine G_s1 _ _ rfl (Try.isAgg25 _) rfl H (hC.mono hs) _ rfl rfl ?_; exact hΦ _ _ (Sub.refl _) H) | (refine G_sN _ _ rfl (Try.isAgg25 _) rfl H (hC.mono hs) (Try.sizeOf25 _) ?_; exact hΦ _ _ (Sub.refl _) H)
            apply ObO.valw
            · intro x; rfl
            · intro s' w' y Φ R hs H hG hΦ; simp only [List.nil_append, List.cons_append] at hG; have e0 : y 0 = _ := dh_get hG 0 rfl (by kernel_rfl); simp only [e0]; refine wantG rfl ?_; (go_simp; refine (refWrite_any H).mono ?_; rintro e w2 ⟨rfl, H⟩; exact ⟨_, rfl, hΦ _ _ (Sub.refl _) H⟩)
            apply ObO.valw
            · intro x; rfl
            · intro s' w' y Φ R hs H hG hΦ; simp only [List.nil_append, List.cons_append] at hG; have e1 : y 1 = _ := dh_get hG 1 rfl (by kernel_rfl); simp only [e1]; refine wantG rfl ?_; (go_simp; exact hΦ _ _ (Sub.refl _) H)
            apply ObO.valg
            · intro x; rfl
            · intro s' y hG; simp only [List.nil_append, List.cons_append] at hG; have eg : y 2 = _ := dh_get hG 2 rfl (by kernel_rfl); simp only [eg]; first | exact wanted_t rfl rfl rfl | exact wanted_vt rfl rfl rfl
            · intro hc s' w' y Φ R hs H hG hΦ; have HC := Lib.hid hc; clear hc; skip; first | (refine L_1 0 _ _ rfl (Try.isAgg25 _) rfl H rfl rfl ?_; exact hΦ _ _ (Sub.refl _) H) | (refine L_1 1 _ _ rfl (Try.isAgg25 _) rfl H rfl rfl ?_; exact hΦ _ _ (Sub.refl _) H) | (refine L_1 2 _ _ rfl (Try.isAgg25 _) rfl H rfl rfl ?_; exact hΦ _ _ (Sub.refl _) H) | (refine G_pNi 0 _ _ rfl (Try.isAgg25 _) rfl H rfl (Try.sizeOf25 _) ?_; exact hΦ _ _ (Sub.refl _) H) | (refine G_pNi 1 _ _ rfl (Try.isAgg25 _) rfl H rfl (Try.sizeOf25 _) ?_; exact hΦ _ _ (Sub.refl _) H) | (refine G_pNi 2 _ _ rfl (Try.isAgg25 _) rfl H rfl (Try.sizeOf25 _) ?_; exact hΦ _ _ (Sub.refl _) H) | (refine G_s1 _ _ rfl (Try.isAgg25 _) rfl H (hC.mono hs) 0 rfl rfl ?_; exact hΦ _ _ (Sub.refl _) H) | (refine G_s1 _ _ rfl (Try.isAgg25 _) rfl H (hC.mono hs) _ rfl rfl ?_; exact hΦ _ _ (Sub.refl _) H) | (refine G_sN _ _ rfl (Try.isAgg25 _) rfl H (hC.mono hs) (Try.sizeOf25 _) ?_; exact hΦ _ _ (Sub.refl _) H)
            apply ObO.valg
            · intro x; rfl
            · intro s' y hG; simp only [List.nil_append, List.cons_append] at hG; have eg : y 2 = _ := dh_get hG 2 rfl (by kernel_rfl); simp only [eg]; first | exact wanted_t rfl rfl rfl | exact wanted_vt rfl rfl rfl
            · intro hc s' w' y Φ R hs H hG hΦ; have HC := Lib.hid hc; clear hc; skip; first | (refine L_1 0 _ _ rfl (Try.isAgg25 _) rfl H rfl rfl ?_; exact hΦ _ _ (Sub.refl _) H) | (refine L_1 1 _ _ rfl (Try.isAgg25 _) rfl H rfl rfl ?_; exact hΦ _ _ (Sub.refl _) H) | (refine L_1 2 _ _ rfl (Try.isAgg25 _) rfl H rfl rfl ?_; exact hΦ _ _ (Sub.refl _) H) | (refine G_pNi 0 _ _ rfl (Try.isAgg25 _) rfl H rfl (Try.sizeOf25 _) ?_; exact hΦ _ _ (Sub.refl _) H) | (refine G_pNi 1 _ _ rfl (Try.isAgg25 _) rfl H rfl (Try.sizeOf25 _) ?_; exact hΦ _ _ (Sub.refl _) H) | (refine G_pNi 2 _ _ rfl (Try.isAgg25 _) rfl H rfl (Try.sizeOf25 _) ?_; exact hΦ _ _ (Sub.refl _) H) | (refine G_s1 _ _ rfl (Try.isAgg25 _) rfl H (hC.mono hs) 0 rfl rfl ?_; exact hΦ _ _ (Sub.refl _) H) | (refine G_s1 _ _ rfl (Try.isAgg25 _) rfl H (hC.mono hs) _ rfl rfl ?_; exact hΦ _ _ (Sub.refl _) H) | (refine G_sN _ _ rfl (Try.isAgg25 _) rfl H (hC.mono hs) (Try.sizeOf25 _) ?_; exact hΦ _ _ (Sub.refl _) H)
            apply ObO.valg
            · intro x; rfl
            · intro s' y hG; simp only [List.nil_append, List.cons_append] at hG; have eg : y 2 = _ := dh_get hG 2 rfl (by kernel_rfl); simp only [eg]; first | exact wanted_t rfl rfl rfl | exact wanted_vt rfl rfl rfl
            · intro hc s' w' y Φ R hs H hG hΦ; simp only [List.nil_append, List.cons_append] at hG; have e3 : y 3 = _ := dh_get hG 3 rfl (by kernel_rfl); have e4 : y 4 = _ := dh_get hG 4 rfl (by kernel_rfl); (first | rw [vg_of hc] at e3 | rw [vg_of (and_l hc)] at e3 | rw [vg_of (and_l (and_l hc))] at e3 | rw [vg_of (and_l (and_l (and_l hc)))] at e3 | rw [vg_and hc] at e3 | skip); (first | rw [vg_of hc] at e4 | rw [vg_of (and_l hc)] at e4 | rw [vg_of (and_l (and_l hc))] at e4 | rw [vg_of (and_l (and_l (and_l hc)))] at e4 | rw [vg_and hc] at e4 | skip); have HC := Lib.hid hc; clear hc; simp only [e3, e4]; (go_simp; refine (like_any H).mono ?_; rintro e w2 ⟨rfl, H⟩; exact ⟨_, rfl, hΦ _ _ (Sub.refl _) H⟩)
            apply ObO.valw
            · intro x; rfl
            · intro s' w' y Φ R hs H hG hΦ; simp only [List.nil_append, List.cons_append] at hG; have e2 : y 2 = _ := dh_get hG 2 rfl (by kernel_rfl); have e5 : y 5 = _ := dh_get hG 5 rfl (by kernel_rfl); simp only [e2, e5]; refine wantG rfl ?_; (refine G_and _ _ _ rfl rfl rfl rfl ?_; exact hΦ _ _ (Sub.refl _) H)
            clear H
            intro s3 w3 yy hs3 H hG
            replace H := (show Holds _ _ ([] ++ _) _ from H); rw [List.nil_append] at H
            simp only [List.nil_append, List.cons_append] at hG
            have e0 : yy 0 = _ := gh_get hG 0 rfl
            have e1 : yy 1 = _ := gh_get hG 1 rfl
            have e2 : yy 2 = _ := gh_get hG 2 rfl
            have e3 : yy 3 = _ := gh_get hG 3 rfl
            have e4 : yy 4 = _ := gh_get hG 4 rfl
            have e5 : yy 5 = _ := gh_get hG 5 rfl
            have e6 : yy 6 = _ := gh_get hG 6 rfl
            simp only [e0, e1, e2, e3, e4, e5, e6]
            clear hG e0 e1 e2 e3 e4 e5 e6
            replace H := H.forget hs3
            refine list_end ?_
            refine then_norm ?_
            refine wp_cond_split rfl (fun hc => ?_) (fun hc => ?_)
            · skip
              refine wp_region_lit ?_
              apply seq_op rfl
              · intro Φ hΦ; go_simp; exact hΦ
              (try simp only [Act.put, List.setIfInBounds_toArray, List.set_cons_succ, List.set_cons_zero])
              refine list_end ?_
              refine block_norm ?_
              refine then_norm ?_
              have hw := i64w (n := (j : Int) + 1) (by omega) (by omega)
              refine wp_region_lit ?_
              apply seq_op rfl
              · intro Φ hΦ; go_simp; exact hΦ
              (try simp only [Act.put, List.setIfInBounds_toArray, List.set_cons_succ, List.set_cons_zero])
              apply seq_op rfl
              · intro Φ hΦ; go_simp; exact hΦ
              (try simp only [Act.put, List.setIfInBounds_toArray, List.set_cons_succ, List.set_cons_zero])
              refine list_end ?_
              refine then_norm ?_
              refine ⟨⟨⟨rfl, rfl, rfl, rfl, rfl, rfl, rfl, rfl, rfl, rfl, rfl, rfl, rfl, rfl, rfl, rfl, rfl, rfl, rfl, rfl, rfl, rfl, rfl, rfl, rfl, rfl, rfl, rfl, rfl, rfl⟩, rfl⟩, ?_, by simp [intOf]; omega⟩
              exact ⟨j + 1, false, by omega, by go_num, rfl, by rw [← HI.out, hdq.out]; simp only [lastF]; rw [if_pos (by exact hc)], H.drop⟩
            · skip
              refine wp_skip ?_
              refine block_norm ?_
              refine then_norm ?_
              have hw := i64w (n := (j : Int) + 1) (by omega) (by omega)
              refine wp_region_lit ?_
              apply seq_op rfl
              · intro Φ hΦ; go_simp; exact hΦ
              (try simp only [Act.put, List.setIfInBounds_toArray, List.set_cons_succ, List.set_cons_zero])
              apply seq_op rfl
              · intro Φ hΦ; go_simp; exact hΦ
              (try simp only [Act.put, List.setIfInBounds_toArray, List.set_cons_succ, List.set_cons_zero])
              refine list_end ?_
              refine then_norm ?_
              refine ⟨⟨⟨rfl, rfl, rfl, rfl, rfl, rfl, rfl, rfl, rfl, rfl, rfl, rfl, rfl, rfl, rfl, rfl, rfl, rfl, rfl, rfl, rfl, rfl, rfl, rfl, rfl, rfl, rfl, rfl, rfl, rfl⟩, rfl⟩, ?_, by simp [intOf]; omega⟩
              exact ⟨j + 1, b, by omega, by go_num, rfl, by rw [← HI.out, hdq.out]; simp only [lastF]; rw [if_neg (nt (by exact hc))], H.drop⟩
          · skip
            have hfin : j = n7 := by
              have : ¬ j < n7 := by simpa using hc
              omega
            subst hfin
            have hb2 := HI.out
            rw [show (xs.drop m).drop j = [] from List.drop_of_length_le (by rw [List.length_drop]; omega), show m = k + 1 by omega] at hb2
            have HB := Lib.hid (show b = lastF o true (xs.drop (k + 1)) from hb2)
            clear HI hb2
            refine wp_exit ?_
            refine then_exit ?_
            refine then_exit ?_
            refine block_exit ?_
            refine then_norm ?_
            refine wp_seq ?_
            refine wp_region_lit ?_
            apply seq_op rfl
            · intro Φ hΦ; go_simp; exact hΦ
            (try simp only [Act.put, List.setIfInBounds_toArray, List.set_cons_succ, List.set_cons_zero])
            refine list_end ?_
            refine then_norm ?_
            refine wp_cond_split rfl (fun hc => ?_) (fun hc => ?_)
            · skip
              have hroom : (ys.length + 1) * kI.by_ ≤ 140737488355328 := by show (ys.length + 1) * 8 ≤ _; omega
              refine wp_region_lit ?_
              apply seq_op rfl
              · intro Φ hΦ; go_simp; exact hΦ
              (try simp only [Act.put, List.setIfInBounds_toArray, List.set_cons_succ, List.set_cons_zero])
              apply seq_op rfl
              · intro Φ hΦ; go_simp; exact hΦ
              (try simp only [Act.put, List.setIfInBounds_toArray, List.set_cons_succ, List.set_cons_zero])
              refine OpG.list rfl ?_; refine SL_1 rfl rfl Try.underlying23 Try.sizeOf3 Try.zeroValue3 rfl rfl (by decide) (by decide) H ?_; clear H; intro b39 w1 H; (try simp only [Value.cells] at H)
              (try simp only [Act.put, List.setIfInBounds_toArray, List.set_cons_succ, List.set_cons_zero])
              refine OpG.list rfl ?_; refine AP_1 1 kI_at _ _ rfl (show kI.K s (k : Int) [.int .i64 k] from ⟨rfl, by constructor <;> omega⟩) H rfl rfl rfl hroom ?_; clear H; intro v40 w1 H; (try simp only [List.set_cons_succ, List.set_cons_zero] at H)
              (try simp only [Act.put, List.setIfInBounds_toArray, List.set_cons_succ, List.set_cons_zero])
              apply seq_op rfl
              · intro Φ hΦ; go_simp; exact hΦ
              (try simp only [Act.put, List.setIfInBounds_toArray, List.set_cons_succ, List.set_cons_zero])
              refine list_end ?_
              refine block_norm ?_
              refine then_norm ?_
              have hw := i64w (n := (k : Int) + 1) (by omega) (by omega)
              refine wp_region_lit ?_
              apply seq_op rfl
              · intro Φ hΦ; go_simp; exact hΦ
              (try simp only [Act.put, List.setIfInBounds_toArray, List.set_cons_succ, List.set_cons_zero])
              apply seq_op rfl
              · intro Φ hΦ; go_simp; exact hΦ
              (try simp only [Act.put, List.setIfInBounds_toArray, List.set_cons_succ, List.set_cons_zero])
              refine list_end ?_
              refine then_norm ?_
              refine ⟨⟨⟨rfl, rfl, rfl, rfl, rfl, rfl, rfl, rfl⟩, rfl⟩, ?_, by simp [intOf]; omega⟩
              exact ⟨k + 1, ys ++ [(k : Int)], by omega, by go_num, by rw [List.append_assoc, ← HR.out, hdr.out]; simp only [refFin]; rw [if_neg (nt hcl.out), if_pos (by rw [← HB.out]; exact hc)]; rfl, by rw [List.length_append, List.length_singleton]; omega, H.drop⟩
            · skip
              refine wp_skip ?_
              refine block_norm ?_
              refine then_norm ?_
              have hw := i64w (n := (k : Int) + 1) (by omega) (by omega)
              refine wp_region_lit ?_
              apply seq_op rfl
              · intro Φ hΦ; go_simp; exact hΦ
              (try simp only [Act.put, List.setIfInBounds_toArray, List.set_cons_succ, List.set_cons_zero])
              apply seq_op rfl
              · intro Φ hΦ; go_simp; exact hΦ
              (try simp only [Act.put, List.setIfInBounds_toArray, List.set_cons_succ, List.set_cons_zero])
              refine list_end ?_
              refine then_norm ?_
              refine ⟨⟨⟨rfl, rfl, rfl, rfl, rfl, rfl, rfl, rfl⟩, rfl⟩, ?_, by simp [intOf]; omega⟩
              exact ⟨k + 1, ys, by omega, by go_num, by rw [← HR.out, hdr.out]; simp only [refFin]; rw [if_neg (nt hcl.out), if_neg (nt (by rw [← HB.out]; exact hc))], by omega, H.drop⟩
    · skip
      have hfin : k = xs.length := by
        have : ¬ k < xs.length := by simpa using hc
        omega
      subst hfin
      have hys := HR.out
      rw [List.drop_length, show refFin xs.length [] = [] from rfl, List.append_nil] at hys
      subst hys
      clear HR
      obtain ⟨s2, hs1, H, hrd0⟩ := Kin.Osl.fr H
      have hrd := hrd0.unsh hs1
      clear hrd0
      refine wp_exit ?_
      refine then_exit ?_
      refine then_exit ?_
      refine block_exit ?_
      refine then_norm ?_
      refine wp_seq ?_
      refine wp_region_lit ?_
      apply seq_op rfl
      · intro Φ hΦ; go_simp; exact hΦ
      (try simp only [Act.put, List.setIfInBounds_toArray, List.set_cons_succ, List.set_cons_zero])
      apply seq_op rfl
      · intro Φ hΦ; go_simp; exact hΦ
      (try simp only [Act.put, List.setIfInBounds_toArray, List.set_cons_succ, List.set_cons_zero])
      refine list_end ?_
      refine then_norm ?_
      refine wp_ret ?_
      exact ret1 rfl (rv_tmp rfl) rfl ⟨_, s2, rfl, hs1, hrd, H⟩
end Go.Proofs.Yticpadjheelipaa
