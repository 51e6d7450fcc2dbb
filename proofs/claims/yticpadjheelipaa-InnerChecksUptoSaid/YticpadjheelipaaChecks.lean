/- The law InnerChecks, walked. -/
import Derived.Test.YticpadjheelipaaCheck
import Derived.Test.YticpadjheelipaaRChk
import Derived.Test.YticpadjheelipaaChecksQ
import Derived.Test.YticpadjheelipaaPlain
import Derived.Test.YticpadjheelipaaSame
namespace Go.Proofs.Yticpadjheelipaa
open Go.RowKit
set_option linter.all false
set_option maxRecDepth 10000

theorem vgt {V : Value} : vg true V = V := vg_of rfl _
set_option maxHeartbeats 4000000 in
theorem checks_spec {E : World} {s : SH} {L : List HP} {w : World} {v : Value} {xs : List Op'} (B : Nat) (hB : ∀ o ∈ xs, o.list.length ≤ B) (hn : (∀ o ∈ xs, o.kind ≠ 1) ∨ (B + xs.length + 1) * 8 ≤ 140737488355328) (hv : kOp.Sl s v xs) (H : Holds E s L w) :
    Calls Try.prog 7 #[v] w fun e w' => e = .returned (.bool true) ∧ ∃ s', Sub s s' ∧ Holds E s' L w' := by
  have hv0 := hv
  obtain ⟨A, cap, rfl, h1, h2, -⟩ := hv
  have h2' : xs.length * 64 ≤ 140737488355328 := h2
  clear h2
  have hck := Lib.hid (check_ref xs)
  have hex := Lib.hid (ext_eq xs)
  go_enter Try.func7, Try.ntmps7
  refine wp_seq ?_
  refine wp_region_lit ?_
  apply seq_op rfl
  · intro Φ hΦ; go_simp; exact hΦ
  (try simp only [Act.put, List.setIfInBounds_toArray, List.set_cons_succ, List.set_cons_zero])
  refine list_end ?_
  refine then_norm ?_
  refine wp_seq ?_
  refine wp_region_lit ?_
  apply seq_op rfl
  · intro Φ hΦ; go_simp; exact hΦ
  (try simp only [Act.put, List.setIfInBounds_toArray, List.set_cons_succ, List.set_cons_zero])
  refine seq_call rfl (fun Φ hΦ => by go_simp; (try exact hΦ)) (ops_spec H hv0) ?_
  clear H; rintro e w1 ⟨v5, rfl, H⟩; refine ⟨_, rfl, ?_⟩
  (try simp only [Act.put, List.setIfInBounds_toArray, List.set_cons_succ, List.set_cons_zero])
  apply seq_op rfl
  · intro Φ hΦ; go_simp; exact hΦ
  (try simp only [Act.put, List.setIfInBounds_toArray, List.set_cons_succ, List.set_cons_zero])
  refine list_end ?_
  obtain ⟨s2, hs2, H, hrd⟩ := Kin.Osl.fr H
  refine then_norm ?_
  refine wp_seq ?_
  refine wp_plain_obO (k := 25) (sz := 30) (List.replicate 25 25) (fun _ => []) rfl rfl (by kernel_rfl) (by kernel_rfl) H (by simp only [List.take_succ_cons, List.take_zero]; exact rfl)
    (fun y => by simp only [ov, Act.put, List.setIfInBounds_toArray, List.set_cons_succ, List.set_cons_zero, Nat.zero_add, Nat.reduceAdd]; exact rfl) ?_
  apply ObO.valw
  · intro x; rfl
  · intro s' w' y Φ R hs H hG hΦ; skip; refine wantG rfl ?_; (go_simp; exact hΦ _ _ (Sub.refl _) H)
  apply ObO.valw
  · intro x; rfl
  · intro s' w' y Φ R hs H hG hΦ; simp only [List.nil_append, List.cons_append] at hG; have e0 : y 0 = _ := dh_get hG 0 rfl (by kernel_rfl); simp only [e0]; refine wantG rfl ?_; (go_simp; refine (check_spec B hB hn (hrd.mono hs) H).mono ?_; rintro e w2 ⟨rfl, H⟩; rw [hck.out]; exact ⟨_, rfl, hΦ _ _ (Sub.refl _) H⟩)
  apply ObO.valw
  · intro x; rfl
  · intro s' w' y Φ R hs H hG hΦ; skip; refine wantG rfl ?_; (go_simp; exact hΦ _ _ (Sub.refl _) H)
  apply ObO.valw
  · intro x; rfl
  · intro s' w' y Φ R hs H hG hΦ; simp only [List.nil_append, List.cons_append] at hG; have e2 : y 2 = _ := dh_get hG 2 rfl (by kernel_rfl); simp only [e2]; refine wantG rfl ?_; (go_simp; refine (refCheck_spec B hB hn (hv0.mono (hs2.trans hs)) H).mono ?_; rintro e w2 ⟨rfl, s9, hs9, H⟩; exact ⟨_, rfl, hΦ _ _ hs9 H⟩)
  apply ObO.valw
  · intro x; rfl
  · intro s' w' y Φ R hs H hG hΦ; simp only [List.nil_append, List.cons_append] at hG; have e1 : y 1 = _ := dh_get hG 1 rfl (by kernel_rfl); have e3 : y 3 = _ := dh_get hG 3 rfl (by kernel_rfl); simp only [e1, e3]; refine wantG rfl ?_; first | (go_simp; show Φ (.bool true) _; exact hΦ _ _ (Sub.refl _) H) | (go_simp; simp only [beq_self_eq_true, decide_true]; exact hΦ _ _ (Sub.refl _) H)
  apply ObO.valw
  · intro x; rfl
  · intro s' w' y Φ R hs H hG hΦ; simp only [List.nil_append, List.cons_append] at hG; have e4 : y 4 = _ := dh_get hG 4 rfl (by kernel_rfl); simp only [e4]; refine wantG rfl ?_; (go_simp; exact hΦ _ _ (Sub.refl _) H)
  apply ObO.valg
  · intro x; rfl
  · intro s' y hG; simp only [List.nil_append, List.cons_append] at hG; have eg : y 5 = _ := dh_get hG 5 rfl (by kernel_rfl); simp only [eg]; first | exact wanted_t rfl rfl rfl | exact wanted_vt rfl rfl rfl
  · intro hc s' w' y Φ R hs H hG hΦ; have HC := Lib.hid hc; clear hc; skip; (go_simp; exact hΦ _ _ (Sub.refl _) H)
  refine ObO.rel (fun s v => kI.Sl s v (extF (fun _ => false) 0 xs)) (fun _ _ _ h k => k.mono h) (fun _ => rfl) ?_ ?_
  · intro s' w' y Φ R hs H hG hΦ
    simp only [List.nil_append, List.cons_append] at hG; have e6 : y 6 = _ := dh_get hG 6 rfl (by kernel_rfl); (try simp only [e6])
    have eg : y 5 = _ := dh_get hG 5 rfl (by kernel_rfl)
    (try simp only [eg])
    (try simp only [vgt])
    refine wantY ((wanted_t rfl rfl rfl).trans rfl) ?_
    go_simp
    refine (external_spec (hrd.mono hs) H).mono ?_
    rintro e w2 ⟨v', s9, rfl, hs9, hv', H⟩
    exact ⟨_, rfl, hΦ _ _ _ hs9 H hv'⟩
  apply ObO.valg
  · intro x; rfl
  · intro s' y hG; simp only [List.nil_append, List.cons_append] at hG; have eg : y 5 = _ := dh_get hG 5 rfl (by kernel_rfl); simp only [eg]; first | exact wanted_t rfl rfl rfl | exact wanted_vt rfl rfl rfl
  · intro hc s' w' y Φ R hs H hG hΦ; have HC := Lib.hid hc; clear hc; skip; (go_simp; exact hΦ _ _ (Sub.refl _) H)
  refine ObO.rel (fun s v => kI.Sl s v (refExt xs 0 xs)) (fun _ _ _ h k => k.mono h) (fun _ => rfl) ?_ ?_
  · intro s' w' y Φ R hs H hG hΦ
    simp only [List.nil_append, List.cons_append] at hG; have e8 : y 8 = _ := dh_get hG 8 rfl (by kernel_rfl); (try simp only [e8])
    have eg : y 5 = _ := dh_get hG 5 rfl (by kernel_rfl)
    (try simp only [eg])
    (try simp only [vgt])
    refine wantY ((wanted_t rfl rfl rfl).trans rfl) ?_
    go_simp
    refine (refExt_spec (hv0.mono (hs2.trans hs)) H).mono ?_
    rintro e w2 ⟨v', s9, rfl, hs9, hv', H⟩
    exact ⟨_, rfl, hΦ _ _ _ hs9 H hv'⟩
  apply ObO.valg
  · intro x; rfl
  · intro s' y hG; simp only [List.nil_append, List.cons_append] at hG; have eg : y 5 = _ := dh_get hG 5 rfl (by kernel_rfl); simp only [eg]; first | exact wanted_t rfl rfl rfl | exact wanted_vt rfl rfl rfl
  · intro hc s' w' y Φ R hs H hG hΦ; have HC := Lib.hid hc; clear hc; skip; ((try simp only [List.nil_append, List.cons_append] at hG); have h1 : kI.Sl s' (y 7) _ := dh_get hG 7 rfl (by kernel_rfl); have h2 : kI.Sl s' (y 9) _ := dh_get hG 9 rfl (by kernel_rfl); go_simp; refine (eqIntsD h1 h2 H).mono ?_; rintro e w2 ⟨rfl, H⟩; rw [decide_eq_true hex.out]; exact ⟨_, rfl, hΦ _ _ (Sub.refl _) H⟩)
  apply ObO.valw
  · intro x; rfl
  · intro s' w' y Φ R hs H hG hΦ; simp only [List.nil_append, List.cons_append] at hG; have e5 : y 5 = _ := dh_get hG 5 rfl (by kernel_rfl); have e10 : y 10 = _ := dh_get hG 10 rfl (by kernel_rfl); simp only [e5, e10]; refine wantG rfl ?_; (refine G_and _ _ _ rfl rfl rfl rfl ?_; show Φ (.bool true) _; exact hΦ _ _ (Sub.refl _) H)
  apply ObO.valw
  · intro x; rfl
  · intro s' w' y Φ R hs H hG hΦ; simp only [List.nil_append, List.cons_append] at hG; have e11 : y 11 = _ := dh_get hG 11 rfl (by kernel_rfl); simp only [e11]; refine wantG rfl ?_; (go_simp; exact hΦ _ _ (Sub.refl _) H)
  apply ObO.valg
  · intro x; rfl
  · intro s' y hG; simp only [List.nil_append, List.cons_append] at hG; have eg : y 12 = _ := dh_get hG 12 rfl (by kernel_rfl); simp only [eg]; first | exact wanted_t rfl rfl rfl | exact wanted_vt rfl rfl rfl
  · intro hc s' w' y Φ R hs H hG hΦ; have HC := Lib.hid hc; clear hc; skip; (go_simp; exact hΦ _ _ (Sub.refl _) H)
  refine ObO.rel (fun s v => kI.Sl s v (refFin 0 xs)) (fun _ _ _ h k => k.mono h) (fun _ => rfl) ?_ ?_
  · intro s' w' y Φ R hs H hG hΦ
    simp only [List.nil_append, List.cons_append] at hG; have e13 : y 13 = _ := dh_get hG 13 rfl (by kernel_rfl); (try simp only [e13])
    have eg : y 12 = _ := dh_get hG 12 rfl (by kernel_rfl)
    (try simp only [eg])
    (try simp only [vgt])
    refine wantY ((wanted_t rfl rfl rfl).trans rfl) ?_
    go_simp
    refine (finals_spec (hrd.mono hs) H).mono ?_
    rintro e w2 ⟨v', s9, R9, rfl, hs9, hR9, hv', H⟩
    rw [fin_eq hR9.1 hR9.2] at hv'
    exact ⟨_, rfl, hΦ _ _ _ hs9 H hv'⟩
  apply ObO.valg
  · intro x; rfl
  · intro s' y hG; simp only [List.nil_append, List.cons_append] at hG; have eg : y 12 = _ := dh_get hG 12 rfl (by kernel_rfl); simp only [eg]; first | exact wanted_t rfl rfl rfl | exact wanted_vt rfl rfl rfl
  · intro hc s' w' y Φ R hs H hG hΦ; have HC := Lib.hid hc; clear hc; skip; (go_simp; exact hΦ _ _ (Sub.refl _) H)
  refine ObO.rel (fun s v => kI.Sl s v (refFin 0 xs)) (fun _ _ _ h k => k.mono h) (fun _ => rfl) ?_ ?_
  · intro s' w' y Φ R hs H hG hΦ
    simp only [List.nil_append, List.cons_append] at hG; have e15 : y 15 = _ := dh_get hG 15 rfl (by kernel_rfl); (try simp only [e15])
    have eg : y 12 = _ := dh_get hG 12 rfl (by kernel_rfl)
    (try simp only [eg])
    (try simp only [vgt])
    refine wantY ((wanted_t rfl rfl rfl).trans rfl) ?_
    go_simp
    refine (refFin_spec (hv0.mono (hs2.trans hs)) H).mono ?_
    rintro e w2 ⟨v', s9, rfl, hs9, hv', H⟩
    exact ⟨_, rfl, hΦ _ _ _ hs9 H hv'⟩
  apply ObO.valg
  · intro x; rfl
  · intro s' y hG; simp only [List.nil_append, List.cons_append] at hG; have eg : y 12 = _ := dh_get hG 12 rfl (by kernel_rfl); simp only [eg]; first | exact wanted_t rfl rfl rfl | exact wanted_vt rfl rfl rfl
  · intro hc s' w' y Φ R hs H hG hΦ; have HC := Lib.hid hc; clear hc; skip; ((try simp only [List.nil_append, List.cons_append] at hG); have h1 : kI.Sl s' (y 14) _ := dh_get hG 14 rfl (by kernel_rfl); have h2 : kI.Sl s' (y 16) _ := dh_get hG 16 rfl (by kernel_rfl); go_simp; refine (eqIntsD h1 h2 H).mono ?_; rintro e w2 ⟨rfl, H⟩; rw [decide_eq_true rfl]; exact ⟨_, rfl, hΦ _ _ (Sub.refl _) H⟩)
  apply ObO.valw
  · intro x; rfl
  · intro s' w' y Φ R hs H hG hΦ; simp only [List.nil_append, List.cons_append] at hG; have e12 : y 12 = _ := dh_get hG 12 rfl (by kernel_rfl); have e17 : y 17 = _ := dh_get hG 17 rfl (by kernel_rfl); simp only [e12, e17]; refine wantG rfl ?_; (refine G_and _ _ _ rfl rfl rfl rfl ?_; show Φ (.bool true) _; exact hΦ _ _ (Sub.refl _) H)
  apply ObO.valw
  · intro x; rfl
  · intro s' w' y Φ R hs H hG hΦ; simp only [List.nil_append, List.cons_append] at hG; have e18 : y 18 = _ := dh_get hG 18 rfl (by kernel_rfl); simp only [e18]; refine wantG rfl ?_; (go_simp; exact hΦ _ _ (Sub.refl _) H)
  apply ObO.valg
  · intro x; rfl
  · intro s' y hG; simp only [List.nil_append, List.cons_append] at hG; have eg : y 19 = _ := dh_get hG 19 rfl (by kernel_rfl); simp only [eg]; first | exact wanted_t rfl rfl rfl | exact wanted_vt rfl rfl rfl
  · intro hc s' w' y Φ R hs H hG hΦ; have HC := Lib.hid hc; clear hc; skip; (go_simp; exact hΦ _ _ (Sub.refl _) H)
  apply ObO.valg
  · intro x; rfl
  · intro s' y hG; simp only [List.nil_append, List.cons_append] at hG; have eg : y 19 = _ := dh_get hG 19 rfl (by kernel_rfl); simp only [eg]; first | exact wanted_t rfl rfl rfl | exact wanted_vt rfl rfl rfl
  · intro hc s' w' y Φ R hs H hG hΦ; have HC := Lib.hid hc; clear hc; skip; (go_simp; exact hΦ _ _ (Sub.refl _) H)
  apply ObO.valg
  · intro x; rfl
  · intro s' y hG; simp only [List.nil_append, List.cons_append] at hG; have eg : y 19 = _ := dh_get hG 19 rfl (by kernel_rfl); simp only [eg]; first | exact wanted_t rfl rfl rfl | exact wanted_vt rfl rfl rfl
  · intro hc s' w' y Φ R hs H hG hΦ; simp only [List.nil_append, List.cons_append] at hG; have e20 : y 20 = _ := dh_get hG 20 rfl (by kernel_rfl); have e21 : y 21 = _ := dh_get hG 21 rfl (by kernel_rfl); (first | rw [vg_of hc] at e20 | rw [vg_of (and_l hc)] at e20 | rw [vg_of (and_l (and_l hc))] at e20 | rw [vg_of (and_l (and_l (and_l hc)))] at e20 | rw [vg_and hc] at e20 | skip); (first | rw [vg_of hc] at e21 | rw [vg_of (and_l hc)] at e21 | rw [vg_of (and_l (and_l hc))] at e21 | rw [vg_of (and_l (and_l (and_l hc)))] at e21 | rw [vg_and hc] at e21 | skip); have HC := Lib.hid hc; clear hc; simp only [e20, e21]; (go_simp; refine (sameOps_spec (hrd.mono hs) (hv0.mono (hs2.trans hs)) H).mono ?_; rintro e w2 ⟨rfl, H⟩; exact ⟨_, rfl, hΦ _ _ (Sub.refl _) H⟩)
  apply ObO.valw
  · intro x; rfl
  · intro s' w' y Φ R hs H hG hΦ; simp only [List.nil_append, List.cons_append] at hG; have e19 : y 19 = _ := dh_get hG 19 rfl (by kernel_rfl); have e22 : y 22 = _ := dh_get hG 22 rfl (by kernel_rfl); simp only [e19, e22]; refine wantG rfl ?_; (refine G_and _ _ _ rfl rfl rfl rfl ?_; show Φ (.bool true) _; exact hΦ _ _ (Sub.refl _) H)
  apply ObO.valw
  · intro x; rfl
  · intro s' w' y Φ R hs H hG hΦ; simp only [List.nil_append, List.cons_append] at hG; have e23 : y 23 = _ := dh_get hG 23 rfl (by kernel_rfl); simp only [e23]; refine wantG rfl ?_; (go_simp; exact hΦ _ _ (Sub.refl _) H)
  clear H
  intro s3 w3 yy hs3 H hG
  replace H := (show Holds _ _ ([] ++ _) _ from H); rw [List.nil_append] at H
  simp only [List.nil_append, List.cons_append] at hG
  have e0 : yy 0 = _ := gh_get hG 0 rfl
  have e1 : yy 1 = _ := gh_get hG 1 rfl
  have e2 : yy 2 = _ := gh_get hG 2 rfl
  have e3 : yy 3 = _ := gh_get hG 3 rfl
  have e4 : yy 4 = _ := gh_get hG 4 rfl
  have e5 : yy 5 = _ := gh_get hG 5 rfl
  have e6 : yy 6 = _ := gh_get hG 6 rfl
  have e8 : yy 8 = _ := gh_get hG 8 rfl
  have e10 : yy 10 = _ := gh_get hG 10 rfl
  have e11 : yy 11 = _ := gh_get hG 11 rfl
  have e12 : yy 12 = _ := gh_get hG 12 rfl
  have e13 : yy 13 = _ := gh_get hG 13 rfl
  have e15 : yy 15 = _ := gh_get hG 15 rfl
  have e17 : yy 17 = _ := gh_get hG 17 rfl
  have e18 : yy 18 = _ := gh_get hG 18 rfl
  have e19 : yy 19 = _ := gh_get hG 19 rfl
  have e20 : yy 20 = _ := gh_get hG 20 rfl
  have e21 : yy 21 = _ := gh_get hG 21 rfl
  have e22 : yy 22 = _ := gh_get hG 22 rfl
  have e23 : yy 23 = _ := gh_get hG 23 rfl
  have e24 : yy 24 = _ := gh_get hG 24 rfl
  simp only [e0, e1, e2, e3, e4, e5, e6, e8, e10, e11, e12, e13, e15, e17, e18, e19, e20, e21, e22, e23, e24]
  clear hG e0 e1 e2 e3 e4 e5 e6 e8 e10 e11 e12 e13 e15 e17 e18 e19 e20 e21 e22 e23 e24
  refine list_end ?_
  refine then_norm ?_
  refine wp_ret ?_
  exact ret1 rfl (rv_tmp rfl) rfl ⟨rfl, s3, hs2.trans hs3, H⟩
end Go.Proofs.Yticpadjheelipaa
