/- Whether two lists of whole numbers are the same: what slices.Equal tells. -/
import Derived.Test.YtemdmpgekegfhaaDoorSame
namespace Go.Proofs.YtemdmpgekegfhaaDoor
open Go.RowKit
set_option linter.all false
set_option maxRecDepth 10000

theorem take_eq_step {xs ys : List Int} {k : Nat} (h1 : k < xs.length) (h2 : k < ys.length) (h : xs.take k = ys.take k) (e : xs[k] = ys[k]) : xs.take (k + 1) = ys.take (k + 1) := by
  rw [List.take_succ_eq_append_getElem h1, List.take_succ_eq_append_getElem h2, h, e]
set_option maxHeartbeats 4000000 in
theorem eqIntsD {E : World} {s : SH} {L : List HP} {w : World} {v v' : Value} {xs ys : List Int} (hv : kI.Sl s v xs) (hv' : kI.Sl s v' ys) (H : Holds E s L w) :
    Calls Tryd.prog 23 #[v, v'] w fun e w' => e = .returned (.bool (decide (xs = ys))) ∧ Holds E s L w' := by
  by_cases hxy : xs.length = ys.length
  · have hv0 := hv
    have hv0' := hv'
    obtain ⟨A, cap, rfl, h1, h2, -⟩ := hv
    obtain ⟨A', cap', rfl, h1', h2', -⟩ := hv'
    have hb : xs.length ≤ 140737488355328 := by have h : xs.length * 8 ≤ 140737488355328 := h2; omega
    clear h2 h2'
    rw [← hxy] at h1' hv0' ⊢
    have HXY := Lib.hid hxy
    clear hxy
    go_enter Tryd.func23, Tryd.ntmps23
    go_wp2
    go_loopw [13] (fun i wr => ∃ k : Nat, k ≤ xs.length ∧ i = .int .i64 k ∧ xs.take k = ys.take k ∧ Holds E s L wr) (fun i _ => xs.length - (intOf i).toNat)
    case atStart => exact ⟨0, Nat.zero_le _, rfl, rfl, H⟩
    case round =>
      clear H
      obtain ⟨k, hk, rfl, htk, H⟩ := hrel
      have HTK := Lib.hid htk
      clear htk
      by_cases hlt : k < xs.length
      · have hlt' : k < ys.length := by rw [← HXY.out]; exact hlt
        obtain ⟨b, off, c, rfl, hK, hC⟩ := hv0.elem k hlt
        obtain ⟨b', off', c', rfl, hK', hC'⟩ := hv0'.elem k hlt'
        obtain ⟨rfl, -⟩ := hK
        obtain ⟨rfl, -⟩ := hK'
        rw [show kI.sz = 1 from rfl, Nat.mul_one] at hC
        rw [show kI.sz = 1 from rfl, Nat.mul_one] at hC'
        have hstep := take_eq_step hlt hlt' HTK.out
        have hne : xs[k] ≠ ys[k] → xs ≠ ys := fun hn e => hn (by subst e; rfl)
        generalize xs[k] = x at *
        generalize ys[k] = y at *
        have HST := Lib.hid hstep
        have HNE := Lib.hid hne
        clear hstep hne hlt'
        by_cases exy : x = y
        · subst exy
          go_wp2_with fail
          refine wp_draw_ob (k := 9) (sz := 26) mixed (by simp) rfl (by kernel_rfl) (by kernel_rfl) H (by simp only [List.take_succ_cons, List.take_zero]; exact rfl) (by simp only [List.drop_succ_cons, List.drop_zero]; exact rfl)
            (fun y => by simp only [ov, Act.put, List.setIfInBounds_toArray, List.set_cons_succ, List.set_cons_zero]; exact rfl) ?_
          iterate 9 (apply Ob.valw; (intro s' w' y Φ hs H hG hΦ; simp [dh, isV, dep, Region.binds] at hG; (try simp only [hG]); first
            | (refine wantN rfl ?_; exact hΦ _ _ (Sub.refl _) H)
            | (refine wantY rfl ?_; first
              | (refine G_s1 _ _ rfl (Tryd.isAgg3 _) rfl H (hC.mono hs) 0 rfl rfl ?_; exact hΦ _ _ (Sub.refl _) H)
              | (refine G_s1 _ _ rfl (Tryd.isAgg3 _) rfl H (hC'.mono hs) 0 rfl rfl ?_; exact hΦ _ _ (Sub.refl _) H)
              | (go_simp; exact hΦ _ _ (Sub.refl _) H))))
          clear H
          intro s3 w3 yy hs3 H hG
          simp [gh, isV] at hG
          simp only [hG]
          clear hG
          go_wp2
          go_roundw
          case rel => exact ⟨k + 1, by omega, by go_num, HST.out trivial, H.forget hs3⟩
          case measure => simp [intOf]; omega
        · go_wp2_with fail
          refine wp_draw_ob (k := 9) (sz := 26) mixed (by simp) rfl (by kernel_rfl) (by kernel_rfl) H (by simp only [List.take_succ_cons, List.take_zero]; exact rfl) (by simp only [List.drop_succ_cons, List.drop_zero]; exact rfl)
            (fun y => by simp only [ov, Act.put, List.setIfInBounds_toArray, List.set_cons_succ, List.set_cons_zero]; exact rfl) ?_
          iterate 9 (apply Ob.valw; (intro s' w' y Φ hs H hG hΦ; simp [dh, isV, dep, Region.binds] at hG; (try simp only [hG]); first
            | (refine wantN rfl ?_; exact hΦ _ _ (Sub.refl _) H)
            | (refine wantY rfl ?_; first
              | (refine G_s1 _ _ rfl (Tryd.isAgg3 _) rfl H (hC.mono hs) 0 rfl rfl ?_; exact hΦ _ _ (Sub.refl _) H)
              | (refine G_s1 _ _ rfl (Tryd.isAgg3 _) rfl H (hC'.mono hs) 0 rfl rfl ?_; exact hΦ _ _ (Sub.refl _) H)
              | (go_simp; exact hΦ _ _ (Sub.refl _) H))))
          clear H
          intro s3 w3 yy hs3 H hG
          simp [gh, isV] at hG
          simp only [hG]
          clear hG
          go_wp2
          go_ret
          exact ⟨by rw [decide_eq_false (HNE.out exy)]; rfl, H.forget hs3⟩
      · go_wp2
        go_ret
        have : xs = ys := by
          have h := HTK.out
          rw [List.take_of_length_le (by omega), List.take_of_length_le (by rw [← HXY.out]; omega)] at h
          exact h
        exact ⟨by rw [decide_eq_true this]; rfl, H⟩
  · obtain ⟨A, cap, rfl, h1, h2, -⟩ := hv
    obtain ⟨A', cap', rfl, h1', h2', -⟩ := hv'
    clear h2 h2'
    have hne : decide (xs = ys) = false := decide_eq_false (fun e => hxy (by rw [e]))
    have HN := Lib.hid hne
    clear hne
    go_enter Tryd.func23, Tryd.ntmps23
    go_wp2
    go_ret
    exact ⟨by rw [HN.out]; rfl, H⟩
end Go.Proofs.YtemdmpgekegfhaaDoor
