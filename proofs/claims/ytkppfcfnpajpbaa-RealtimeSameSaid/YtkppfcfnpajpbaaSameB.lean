/- Matrices that read alike are told to be the same. -/
import Derived.Test.YtkppfcfnpajpbaaMat
import Derived.Test.YtkppfcfnpajpbaaSame
namespace Go.Proofs.Ytkppfcfnpajpbaa
open Go.RowKit
set_option linter.all false

set_option maxHeartbeats 4000000 in
theorem eqBools {E : World} {s : SH} {L : List HP} {w : World} {v v' : Value} {xs : List _} (hv : kB.Sl s v xs) (hv' : kB.Sl s v' xs) (H : Holds E s L w) :
    Calls Try.prog 21 #[v, v'] w fun e w' => e = .returned (.bool true) ∧ Holds E s L w' := by
  have hv0 := hv
  have hv0' := hv'
  obtain ⟨A, cap, rfl, h1, h2, -⟩ := hv
  obtain ⟨A', cap', rfl, h1', h2', -⟩ := hv'
  have hb : xs.length ≤ 140737488355328 := by have h : xs.length * 1 ≤ 140737488355328 := h2; omega
  clear h2 h2'
  go_enter Try.func21, Try.ntmps21
  go_wp2
  go_loopw [13] (fun i wr => ∃ k : Nat, k ≤ xs.length ∧ i = .int .i64 k ∧ Holds E s L wr) (fun i _ => xs.length - (intOf i).toNat)
  case atStart => exact ⟨0, Nat.zero_le _, rfl, H⟩
  case round =>
    clear H
    obtain ⟨k, hk, rfl, H⟩ := hrel
    by_cases hlt : k < xs.length
    · obtain ⟨b, off, c, rfl, hK, hC⟩ := hv0.elem k hlt
      obtain ⟨b', off', c', rfl, hK', hC'⟩ := hv0'.elem k hlt
      obtain ⟨rfl, -⟩ := hK
      obtain ⟨rfl, -⟩ := hK'
      rw [show kB.sz = 1 from rfl, Nat.mul_one] at hC
      rw [show kB.sz = 1 from rfl, Nat.mul_one] at hC'
      generalize xs[k] = x at *
      go_wp2_with fail
      refine wp_draw_ob (k := 9) (sz := 26) mixed (by simp) rfl (by kernel_rfl) (by kernel_rfl) H (by simp only [List.take_succ_cons, List.take_zero]; exact rfl) (by simp only [List.drop_succ_cons, List.drop_zero]; exact rfl)
        (fun y => by simp only [ov, Act.put, List.setIfInBounds_toArray, List.set_cons_succ, List.set_cons_zero]; exact rfl) ?_
      iterate 9 (apply Ob.valw; (intro s' w' y Φ hs H hG hΦ; simp [dh, isV, dep, Region.binds] at hG; (try simp only [hG]); first
        | (refine wantN rfl ?_; exact hΦ _ _ (Sub.refl _) H)
        | (refine wantY rfl ?_; first
          | (refine G_s1 _ _ rfl (Try.isAgg4 _) rfl H (hC.mono hs) 0 rfl rfl ?_; exact hΦ _ _ (Sub.refl _) H)
          | (refine G_s1 _ _ rfl (Try.isAgg4 _) rfl H (hC'.mono hs) 0 rfl rfl ?_; exact hΦ _ _ (Sub.refl _) H)
          | (go_simp; exact hΦ _ _ (Sub.refl _) H))))
      clear H
      intro s3 w3 yy hs3 H hG
      simp [gh, isV] at hG
      simp only [hG]
      clear hG
      go_wp2
      go_roundw
      case rel => exact ⟨k + 1, by omega, by go_num, H.forget hs3⟩
      case measure => simp [intOf]; omega
    · go_wp2
      go_ret
      exact ⟨rfl, H⟩
set_option maxHeartbeats 4000000 in
theorem eqMat {E : World} {s : SH} {L : List HP} {w : World} {v v' : Value} {xs : List (List Bool)} (hv : kLB.Sl s v xs) (hv' : kLB.Sl s v' xs) (H : Holds E s L w) :
    Calls Try.prog 19 #[v, v', .func (.func 21) #[] #[]] w fun e w' => e = .returned (.bool true) ∧ Holds E s L w' := by
  have hv0 := hv
  have hv0' := hv'
  obtain ⟨A, cap, rfl, h1, h2, -⟩ := hv
  obtain ⟨A', cap', rfl, h1', h2', -⟩ := hv'
  have hb : xs.length ≤ 140737488355328 := by have h : xs.length * 24 ≤ 140737488355328 := h2; omega
  clear h2 h2'
  go_enter Try.func19, Try.ntmps19
  go_wp2
  go_loopw [17] (fun i wr => ∃ k : Nat, k ≤ xs.length ∧ i = .int .i64 k ∧ Holds E s L wr) (fun i _ => xs.length - (intOf i).toNat)
  case atStart => exact ⟨0, Nat.zero_le _, rfl, H⟩
  case round =>
    clear H
    obtain ⟨k, hk, rfl, H⟩ := hrel
    by_cases hlt : k < xs.length
    · obtain ⟨b, off, c, rfl, hK, hC⟩ := hv0.elem k hlt
      obtain ⟨b', off', c', rfl, hK', hC'⟩ := hv0'.elem k hlt
      obtain ⟨u, rfl, hu⟩ := hK
      obtain ⟨u', rfl, hu'⟩ := hK'
      rw [show kLB.sz = 1 from rfl, Nat.mul_one] at hC
      rw [show kLB.sz = 1 from rfl, Nat.mul_one] at hC'
      have hcall := fun (L : List HP) (w : World) (H : Holds E s L w) => eqBools hu hu' H
      have HC1 := Lib.hid hcall
      clear hcall
      go_wp2_with (first
        | ((with_reducible refine OpG.list rfl ?_); first
          | (refine G_s1 _ _ rfl (Try.isAgg38 _) rfl H hC 0 rfl rfl ?_)
          | (refine G_s1 _ _ rfl (Try.isAgg38 _) rfl H hC' 0 rfl rfl ?_))
        | (refine (HC1.out _ _ H).mono ?_; clear H; rintro e w2 ⟨rfl, H⟩))
      go_roundw
      case rel => exact ⟨k + 1, by omega, by go_num, H⟩
      case measure => simp [intOf]; omega
    · go_wp2
      go_ret
      exact ⟨rfl, H⟩
end Go.Proofs.Ytkppfcfnpajpbaa
