/- The law InnerBegins, walked. -/
import Derived.Test.YticpadjheelipaaCheck
import Derived.Test.YticpadjheelipaaRChk
namespace Go.Proofs.Yticpadjheelipaa
open Go.RowKit
set_option linter.all false
set_option maxRecDepth 10000

set_option maxHeartbeats 4000000 in
theorem begins_spec {E : World} {s : SH} {L : List HP} {w : World} {v : Value} {xs : List Op'} {x : Int} (B : Nat) (hB : ∀ o ∈ xs, o.list.length ≤ B) (hn : (∀ o ∈ xs, o.kind ≠ 1) ∨ (B + xs.length + 1) * 8 ≤ 140737488355328) (hv : kOp.Sl s v xs) (H : Holds E s L w) :
    Calls Try.prog 5 #[v, .int .i64 x] w fun e w' => ∃ m : Nat, e = .returned (.bool ((checkV (fun _ => view0) 0 xs == refChk xs 0 xs) && (((decide (0 ≤ checkV (fun _ => view0) 0 xs) && decide (checkV (fun _ => view0) 0 xs < (m : Int))) == decide (0 ≤ checkV (fun _ => view0) 0 (xs.take m)))) &&
    (decide (checkV (fun _ => view0) 0 (xs.take m) < 0) || (checkV (fun _ => view0) 0 (xs.take m) == checkV (fun _ => view0) 0 xs)))) ∧ ∃ s', Sub s s' ∧ Holds E s' L w' := by
  have hv0 := hv
  obtain ⟨A, cap, rfl, h1, h2, -⟩ := hv
  have h2' : xs.length * 64 ≤ 140737488355328 := h2
  clear h2
  have hw := i64w (n := (xs.length : Int) + 1) (by omega) (by omega)
  obtain ⟨N, hN0⟩ : ∃ N : Int, N = (xs.length : Int) + 1 := ⟨_, rfl⟩
  have hu : IntKind.u64.wrap ((xs.length : Int) + 1) = N := by rw [hN0]; simp [IntKind.wrap, IntKind.bits, IntKind.signed]; omega
  have hnz : ¬ N = 0 := by omega
  obtain ⟨m, hm, hm1⟩ : ∃ m : Nat, m ≤ xs.length ∧ IntKind.i64.wrap ((IntKind.u64.wrap x).tmod N) = (m : Int) := by
    have h0 : 0 ≤ IntKind.u64.wrap x := by simp [IntKind.wrap, IntKind.bits, IntKind.signed]; omega
    have h3 := Int.tmod_lt_of_pos (IntKind.u64.wrap x) (show 0 < N by omega)
    have h4 := Int.tmod_nonneg N h0
    generalize (IntKind.u64.wrap x).tmod N = r at *
    exact ⟨r.toNat, by omega, by rw [i64w (by omega) (by omega)]; omega⟩
  clear hN0
  have hnt : (∀ o ∈ xs.take m, o.kind ≠ 1) ∨ (B + (xs.take m).length + 1) * 8 ≤ 140737488355328 := hn.imp (fun h o ho => h o (List.mem_of_mem_take ho)) (fun h => by rw [List.length_take]; omega)
  go_enter Try.func5, Try.ntmps5
  refine wp_seq ?_
  refine wp_region_lit ?_
  apply seq_op rfl
  · intro Φ hΦ; go_simp; exact hΦ
  (try simp only [Act.put, List.setIfInBounds_toArray, List.set_cons_succ, List.set_cons_zero])
  refine list_end ?_
  refine then_norm ?_
  refine wp_seq ?_
  refine wp_region_lit ?_
  apply seq_op rfl
  · intro Φ hΦ; go_simp; exact hΦ
  (try simp only [Act.put, List.setIfInBounds_toArray, List.set_cons_succ, List.set_cons_zero])
  apply seq_op rfl
  · intro Φ hΦ; go_simp; exact hΦ
  (try simp only [Act.put, List.setIfInBounds_toArray, List.set_cons_succ, List.set_cons_zero])
  apply seq_op rfl
  · intro Φ hΦ; go_simp; exact hΦ
  (try simp only [Act.put, List.setIfInBounds_toArray, List.set_cons_succ, List.set_cons_zero])
  apply seq_op rfl
  · intro Φ hΦ; go_simp; exact hΦ
  (try simp only [Act.put, List.setIfInBounds_toArray, List.set_cons_succ, List.set_cons_zero])
  apply seq_op rfl
  · intro Φ hΦ; go_simp; exact hΦ
  (try simp only [Act.put, List.setIfInBounds_toArray, List.set_cons_succ, List.set_cons_zero])
  apply seq_op rfl
  · intro Φ hΦ; go_simp; exact hΦ
  (try simp only [Act.put, List.setIfInBounds_toArray, List.set_cons_succ, List.set_cons_zero])
  apply seq_op rfl
  · intro Φ hΦ; go_simp; exact hΦ
  (try simp only [Act.put, List.setIfInBounds_toArray, List.set_cons_succ, List.set_cons_zero])
  apply seq_op rfl
  · intro Φ hΦ; go_simp; exact hΦ
  (try simp only [Act.put, List.setIfInBounds_toArray, List.set_cons_succ, List.set_cons_zero])
  apply seq_op rfl
  · intro Φ hΦ; go_simp; exact hΦ
  (try simp only [Act.put, List.setIfInBounds_toArray, List.set_cons_succ, List.set_cons_zero])
  refine list_end ?_
  refine then_norm ?_
  refine wp_seq ?_
  refine wp_region_lit ?_
  apply seq_op rfl
  · intro Φ hΦ; go_simp; exact hΦ
  (try simp only [Act.put, List.setIfInBounds_toArray, List.set_cons_succ, List.set_cons_zero])
  apply seq_op rfl
  · intro Φ hΦ; go_simp; exact hΦ
  (try simp only [Act.put, List.setIfInBounds_toArray, List.set_cons_succ, List.set_cons_zero])
  apply seq_op rfl
  · intro Φ hΦ; refine G_slice_hN kOp_at _ _ rfl rfl rfl (by omega) ?_; exact hΦ
  (try simp only [Act.put, List.setIfInBounds_toArray, List.set_cons_succ, List.set_cons_zero])
  refine seq_call rfl (fun Φ hΦ => by go_simp; (try exact hΦ)) (check_spec B (fun o ho => hB o (List.mem_of_mem_take ho)) hnt (hv0.take m hm) H) ?_
  clear H; rintro e w1 ⟨rfl, H⟩; refine ⟨_, rfl, ?_⟩
  (try simp only [Act.put, List.setIfInBounds_toArray, List.set_cons_succ, List.set_cons_zero])
  apply seq_op rfl
  · intro Φ hΦ; go_simp; exact hΦ
  (try simp only [Act.put, List.setIfInBounds_toArray, List.set_cons_succ, List.set_cons_zero])
  refine seq_call rfl (fun Φ hΦ => by go_simp; (try exact hΦ)) (check_spec B hB hn hv0 H) ?_
  clear H; rintro e w1 ⟨rfl, H⟩; refine ⟨_, rfl, ?_⟩
  (try simp only [Act.put, List.setIfInBounds_toArray, List.set_cons_succ, List.set_cons_zero])
  apply seq_op rfl
  · intro Φ hΦ; go_simp; exact hΦ
  (try simp only [Act.put, List.setIfInBounds_toArray, List.set_cons_succ, List.set_cons_zero])
  apply seq_op rfl
  · intro Φ hΦ; go_simp; exact hΦ
  (try simp only [Act.put, List.setIfInBounds_toArray, List.set_cons_succ, List.set_cons_zero])
  refine list_end ?_
  refine then_norm ?_
  refine wp_seq ?_
  refine wp_plain_obO (k := 26) (sz := 46) (List.replicate 26 26) (fun _ => []) rfl rfl (by kernel_rfl) (by kernel_rfl) H (by simp only [List.take_succ_cons, List.take_zero]; exact rfl)
    (fun y => by simp only [ov, Act.put, List.setIfInBounds_toArray, List.set_cons_succ, List.set_cons_zero, Nat.zero_add, Nat.reduceAdd]; exact rfl) ?_
  apply ObO.valw
  · intro x; rfl
  · intro s' w' y Φ R hs H hG hΦ; skip; refine wantG rfl ?_; (go_simp; exact hΦ _ _ (Sub.refl _) H)
  apply ObO.valw
  · intro x; rfl
  · intro s' w' y Φ R hs H hG hΦ; skip; refine wantG rfl ?_; (go_simp; exact hΦ _ _ (Sub.refl _) H)
  apply ObO.valw
  · intro x; rfl
  · intro s' w' y Φ R hs H hG hΦ; simp only [List.nil_append, List.cons_append] at hG; have e1 : y 1 = _ := dh_get hG 1 rfl (by kernel_rfl); simp only [e1]; refine wantG rfl ?_; (go_simp; refine (refCheck_spec B hB hn (hv0.mono hs) H).mono ?_; rintro e w2 ⟨rfl, s9, hs9, H⟩; exact ⟨_, rfl, hΦ _ _ hs9 H⟩)
  apply ObO.valw
  · intro x; rfl
  · intro s' w' y Φ R hs H hG hΦ; simp only [List.nil_append, List.cons_append] at hG; have e0 : y 0 = _ := dh_get hG 0 rfl (by kernel_rfl); have e2 : y 2 = _ := dh_get hG 2 rfl (by kernel_rfl); simp only [e0, e2]; refine wantG rfl ?_; (go_simp; exact hΦ _ _ (Sub.refl _) H)
  apply ObO.valw
  · intro x; rfl
  · intro s' w' y Φ R hs H hG hΦ; simp only [List.nil_append, List.cons_append] at hG; have e3 : y 3 = _ := dh_get hG 3 rfl (by kernel_rfl); simp only [e3]; refine wantG rfl ?_; (go_simp; exact hΦ _ _ (Sub.refl _) H)
  apply ObO.valg
  · intro x; rfl
  · intro s' y hG; simp only [List.nil_append, List.cons_append] at hG; have eg : y 4 = _ := dh_get hG 4 rfl (by kernel_rfl); simp only [eg]; first | exact wanted_t rfl rfl rfl | exact wanted_vt rfl rfl rfl
  · intro hc s' w' y Φ R hs H hG hΦ; have HC := Lib.hid hc; clear hc; skip; (go_simp; exact hΦ _ _ (Sub.refl _) H)
  apply ObO.valg
  · intro x; rfl
  · intro s' y hG; simp only [List.nil_append, List.cons_append] at hG; have eg : y 4 = _ := dh_get hG 4 rfl (by kernel_rfl); simp only [eg]; first | exact wanted_t rfl rfl rfl | exact wanted_vt rfl rfl rfl
  · intro hc s' w' y Φ R hs H hG hΦ; simp only [List.nil_append, List.cons_append] at hG; have e5 : y 5 = _ := dh_get hG 5 rfl (by kernel_rfl); (first | rw [vg_of hc] at e5 | rw [vg_of (and_l hc)] at e5 | rw [vg_of (and_l (and_l hc))] at e5 | rw [vg_of (and_l (and_l (and_l hc)))] at e5 | rw [vg_and hc] at e5 | skip); have HC := Lib.hid hc; clear hc; simp only [e5]; (go_simp; exact hΦ _ _ (Sub.refl _) H)
  apply ObO.valg
  · intro x; rfl
  · intro s' y hG; simp only [List.nil_append, List.cons_append] at hG; have eg : y 4 = _ := dh_get hG 4 rfl (by kernel_rfl); simp only [eg]; first | exact wanted_t rfl rfl rfl | exact wanted_vt rfl rfl rfl
  · intro hc s' w' y Φ R hs H hG hΦ; simp only [List.nil_append, List.cons_append] at hG; have e6 : y 6 = _ := dh_get hG 6 rfl (by kernel_rfl); (first | rw [vg_of hc] at e6 | rw [vg_of (and_l hc)] at e6 | rw [vg_of (and_l (and_l hc))] at e6 | rw [vg_of (and_l (and_l (and_l hc)))] at e6 | rw [vg_and hc] at e6 | skip); have HC := Lib.hid hc; clear hc; simp only [e6]; (go_simp; exact hΦ _ _ (Sub.refl _) H)
  apply ObO.valg
  · intro x; rfl
  · intro s' y hG; simp only [List.nil_append, List.cons_append] at hG; have eg : y 7 = _ := dh_get hG 7 rfl (by kernel_rfl); simp only [eg]; first | exact wanted_t rfl rfl rfl | exact wanted_vt rfl rfl rfl
  · intro hc s' w' y Φ R hs H hG hΦ; have HC := Lib.hid hc; clear hc; skip; (go_simp; exact hΦ _ _ (Sub.refl _) H)
  apply ObO.valg
  · intro x; rfl
  · intro s' y hG; simp only [List.nil_append, List.cons_append] at hG; have eg : y 7 = _ := dh_get hG 7 rfl (by kernel_rfl); simp only [eg]; first | exact wanted_t rfl rfl rfl | exact wanted_vt rfl rfl rfl
  · intro hc s' w' y Φ R hs H hG hΦ; have HC := Lib.hid hc; clear hc; skip; (go_simp; exact hΦ _ _ (Sub.refl _) H)
  apply ObO.valg
  · intro x; rfl
  · intro s' y hG; simp only [List.nil_append, List.cons_append] at hG; have eg : y 7 = _ := dh_get hG 7 rfl (by kernel_rfl); simp only [eg]; first | exact wanted_t rfl rfl rfl | exact wanted_vt rfl rfl rfl
  · intro hc s' w' y Φ R hs H hG hΦ; simp only [List.nil_append, List.cons_append] at hG; have e8 : y 8 = _ := dh_get hG 8 rfl (by kernel_rfl); have e9 : y 9 = _ := dh_get hG 9 rfl (by kernel_rfl); (first | rw [vg_of hc] at e8 | rw [vg_of (and_l hc)] at e8 | rw [vg_of (and_l (and_l hc))] at e8 | rw [vg_of (and_l (and_l (and_l hc)))] at e8 | rw [vg_and hc] at e8 | skip); (first | rw [vg_of hc] at e9 | rw [vg_of (and_l hc)] at e9 | rw [vg_of (and_l (and_l hc))] at e9 | rw [vg_of (and_l (and_l (and_l hc)))] at e9 | rw [vg_and hc] at e9 | skip); have HC := Lib.hid hc; clear hc; simp only [e8, e9]; (go_simp; exact hΦ _ _ (Sub.refl _) H)
  apply ObO.valg
  · intro x; rfl
  · intro s' y hG; simp only [List.nil_append, List.cons_append] at hG; have eg : y 4 = _ := dh_get hG 4 rfl (by kernel_rfl); simp only [eg]; first | exact wanted_t rfl rfl rfl | exact wanted_vt rfl rfl rfl
  · intro hc s' w' y Φ R hs H hG hΦ; simp only [List.nil_append, List.cons_append] at hG; have e7 : y 7 = _ := dh_get hG 7 rfl (by kernel_rfl); have e10 : y 10 = _ := dh_get hG 10 rfl (by kernel_rfl); (first | rw [vg_of hc] at e7 | rw [vg_of (and_l hc)] at e7 | rw [vg_of (and_l (and_l hc))] at e7 | rw [vg_of (and_l (and_l (and_l hc)))] at e7 | rw [vg_and hc] at e7 | skip); (first | rw [vg_of hc] at e10 | rw [vg_of (and_l hc)] at e10 | rw [vg_of (and_l (and_l hc))] at e10 | rw [vg_of (and_l (and_l (and_l hc)))] at e10 | rw [vg_and hc] at e10 | skip); have HC := Lib.hid hc; clear hc; simp only [e7, e10]; (refine G_and _ _ _ rfl rfl rfl rfl ?_; exact hΦ _ _ (Sub.refl _) H)
  apply ObO.valg
  · intro x; rfl
  · intro s' y hG; simp only [List.nil_append, List.cons_append] at hG; have eg : y 4 = _ := dh_get hG 4 rfl (by kernel_rfl); simp only [eg]; first | exact wanted_t rfl rfl rfl | exact wanted_vt rfl rfl rfl
  · intro hc s' w' y Φ R hs H hG hΦ; have HC := Lib.hid hc; clear hc; skip; (go_simp; exact hΦ _ _ (Sub.refl _) H)
  apply ObO.valg
  · intro x; rfl
  · intro s' y hG; simp only [List.nil_append, List.cons_append] at hG; have eg : y 4 = _ := dh_get hG 4 rfl (by kernel_rfl); simp only [eg]; first | exact wanted_t rfl rfl rfl | exact wanted_vt rfl rfl rfl
  · intro hc s' w' y Φ R hs H hG hΦ; simp only [List.nil_append, List.cons_append] at hG; have e12 : y 12 = _ := dh_get hG 12 rfl (by kernel_rfl); (first | rw [vg_of hc] at e12 | rw [vg_of (and_l hc)] at e12 | rw [vg_of (and_l (and_l hc))] at e12 | rw [vg_of (and_l (and_l (and_l hc)))] at e12 | rw [vg_and hc] at e12 | skip); have HC := Lib.hid hc; clear hc; simp only [e12]; (go_simp; exact hΦ _ _ (Sub.refl _) H)
  apply ObO.valg
  · intro x; rfl
  · intro s' y hG; simp only [List.nil_append, List.cons_append] at hG; have eg : y 4 = _ := dh_get hG 4 rfl (by kernel_rfl); simp only [eg]; first | exact wanted_t rfl rfl rfl | exact wanted_vt rfl rfl rfl
  · intro hc s' w' y Φ R hs H hG hΦ; simp only [List.nil_append, List.cons_append] at hG; have e11 : y 11 = _ := dh_get hG 11 rfl (by kernel_rfl); have e13 : y 13 = _ := dh_get hG 13 rfl (by kernel_rfl); (first | rw [vg_of hc] at e11 | rw [vg_of (and_l hc)] at e11 | rw [vg_of (and_l (and_l hc))] at e11 | rw [vg_of (and_l (and_l (and_l hc)))] at e11 | rw [vg_and hc] at e11 | skip); (first | rw [vg_of hc] at e13 | rw [vg_of (and_l hc)] at e13 | rw [vg_of (and_l (and_l hc))] at e13 | rw [vg_of (and_l (and_l (and_l hc)))] at e13 | rw [vg_and hc] at e13 | skip); have HC := Lib.hid hc; clear hc; simp only [e11, e13]; (go_simp; exact hΦ _ _ (Sub.refl _) H)
  apply ObO.valw
  · intro x; rfl
  · intro s' w' y Φ R hs H hG hΦ; simp only [List.nil_append, List.cons_append] at hG; have e4 : y 4 = _ := dh_get hG 4 rfl (by kernel_rfl); have e14 : y 14 = _ := dh_get hG 14 rfl (by kernel_rfl); simp only [e4, e14]; refine wantG rfl ?_; (refine G_and _ _ _ rfl rfl rfl rfl ?_; exact hΦ _ _ (Sub.refl _) H)
  apply ObO.valw
  · intro x; rfl
  · intro s' w' y Φ R hs H hG hΦ; simp only [List.nil_append, List.cons_append] at hG; have e15 : y 15 = _ := dh_get hG 15 rfl (by kernel_rfl); simp only [e15]; refine wantG rfl ?_; (go_simp; exact hΦ _ _ (Sub.refl _) H)
  apply ObO.valg
  · intro x; rfl
  · intro s' y hG; simp only [List.nil_append, List.cons_append] at hG; have eg : y 16 = _ := dh_get hG 16 rfl (by kernel_rfl); simp only [eg]; first | exact wanted_t rfl rfl rfl | exact wanted_vt rfl rfl rfl
  · intro hc s' w' y Φ R hs H hG hΦ; have HC := Lib.hid hc; clear hc; skip; (go_simp; exact hΦ _ _ (Sub.refl _) H)
  apply ObO.valg
  · intro x; rfl
  · intro s' y hG; simp only [List.nil_append, List.cons_append] at hG; have eg : y 16 = _ := dh_get hG 16 rfl (by kernel_rfl); simp only [eg]; first | exact wanted_t rfl rfl rfl | exact wanted_vt rfl rfl rfl
  · intro hc s' w' y Φ R hs H hG hΦ; simp only [List.nil_append, List.cons_append] at hG; have e17 : y 17 = _ := dh_get hG 17 rfl (by kernel_rfl); (first | rw [vg_of hc] at e17 | rw [vg_of (and_l hc)] at e17 | rw [vg_of (and_l (and_l hc))] at e17 | rw [vg_of (and_l (and_l (and_l hc)))] at e17 | rw [vg_and hc] at e17 | skip); have HC := Lib.hid hc; clear hc; simp only [e17]; (go_simp; exact hΦ _ _ (Sub.refl _) H)
  apply ObO.valg
  · intro x; rfl
  · intro s' y hG; simp only [List.nil_append, List.cons_append] at hG; have eg : y 16 = _ := dh_get hG 16 rfl (by kernel_rfl); simp only [eg]; first | exact wanted_t rfl rfl rfl | exact wanted_vt rfl rfl rfl
  · intro hc s' w' y Φ R hs H hG hΦ; simp only [List.nil_append, List.cons_append] at hG; have e18 : y 18 = _ := dh_get hG 18 rfl (by kernel_rfl); (first | rw [vg_of hc] at e18 | rw [vg_of (and_l hc)] at e18 | rw [vg_of (and_l (and_l hc))] at e18 | rw [vg_of (and_l (and_l (and_l hc)))] at e18 | rw [vg_and hc] at e18 | skip); have HC := Lib.hid hc; clear hc; simp only [e18]; (go_simp; exact hΦ _ _ (Sub.refl _) H)
  apply ObO.valg
  · intro x; rfl
  · intro s' y hG; simp only [List.nil_append, List.cons_append] at hG; have eg : y 19 = _ := dh_get hG 19 rfl (by kernel_rfl); simp only [eg]; first | exact wanted_f rfl rfl rfl | exact wanted_vf rfl rfl rfl
  · intro hc s' w' y Φ R hs H hG hΦ; have HC := Lib.hid hc; clear hc; skip; (go_simp; exact hΦ _ _ (Sub.refl _) H)
  apply ObO.valg
  · intro x; rfl
  · intro s' y hG; simp only [List.nil_append, List.cons_append] at hG; have eg : y 19 = _ := dh_get hG 19 rfl (by kernel_rfl); simp only [eg]; first | exact wanted_f rfl rfl rfl | exact wanted_vf rfl rfl rfl
  · intro hc s' w' y Φ R hs H hG hΦ; have HC := Lib.hid hc; clear hc; skip; (go_simp; exact hΦ _ _ (Sub.refl _) H)
  apply ObO.valg
  · intro x; rfl
  · intro s' y hG; simp only [List.nil_append, List.cons_append] at hG; have eg : y 19 = _ := dh_get hG 19 rfl (by kernel_rfl); simp only [eg]; first | exact wanted_f rfl rfl rfl | exact wanted_vf rfl rfl rfl
  · intro hc s' w' y Φ R hs H hG hΦ; simp only [List.nil_append, List.cons_append] at hG; have e20 : y 20 = _ := dh_get hG 20 rfl (by kernel_rfl); have e21 : y 21 = _ := dh_get hG 21 rfl (by kernel_rfl); (first | rw [vg_of hc] at e20 | rw [vg_of (and_l hc)] at e20 | rw [vg_of (and_l (and_l hc))] at e20 | rw [vg_of (and_l (and_l (and_l hc)))] at e20 | rw [vg_and hc] at e20 | skip); (first | rw [vg_of hc] at e21 | rw [vg_of (and_l hc)] at e21 | rw [vg_of (and_l (and_l hc))] at e21 | rw [vg_of (and_l (and_l (and_l hc)))] at e21 | rw [vg_and hc] at e21 | skip); have HC := Lib.hid hc; clear hc; simp only [e20, e21]; (go_simp; exact hΦ _ _ (Sub.refl _) H)
  apply ObO.valg
  · intro x; rfl
  · intro s' y hG; simp only [List.nil_append, List.cons_append] at hG; have eg : y 16 = _ := dh_get hG 16 rfl (by kernel_rfl); simp only [eg]; first | exact wanted_t rfl rfl rfl | exact wanted_vt rfl rfl rfl
  · intro hc s' w' y Φ R hs H hG hΦ; simp only [List.nil_append, List.cons_append] at hG; have e19 : y 19 = _ := dh_get hG 19 rfl (by kernel_rfl); have e22 : y 22 = _ := dh_get hG 22 rfl (by kernel_rfl); (first | rw [vg_of hc] at e19 | rw [vg_of (and_l hc)] at e19 | rw [vg_of (and_l (and_l hc))] at e19 | rw [vg_of (and_l (and_l (and_l hc)))] at e19 | rw [vg_and hc] at e19 | skip); (first | rw [vg_of hc] at e22 | rw [vg_of (and_l hc)] at e22 | rw [vg_of (and_l (and_l hc))] at e22 | rw [vg_of (and_l (and_l (and_l hc)))] at e22 | rw [vg_and hc] at e22 | skip); have HC := Lib.hid hc; clear hc; simp only [e19, e22]; (refine G_or _ _ _ rfl rfl rfl rfl ?_; exact hΦ _ _ (Sub.refl _) H)
  apply ObO.valw
  · intro x; rfl
  · intro s' w' y Φ R hs H hG hΦ; simp only [List.nil_append, List.cons_append] at hG; have e16 : y 16 = _ := dh_get hG 16 rfl (by kernel_rfl); have e23 : y 23 = _ := dh_get hG 23 rfl (by kernel_rfl); simp only [e16, e23]; refine wantG rfl ?_; (refine G_and _ _ _ rfl rfl rfl rfl ?_; exact hΦ _ _ (Sub.refl _) H)
  apply ObO.valw
  · intro x; rfl
  · intro s' w' y Φ R hs H hG hΦ; simp only [List.nil_append, List.cons_append] at hG; have e24 : y 24 = _ := dh_get hG 24 rfl (by kernel_rfl); simp only [e24]; refine wantG rfl ?_; (go_simp; exact hΦ _ _ (Sub.refl _) H)
  clear H
  intro s3 w3 yy hs3 H hG
  replace H := (show Holds _ _ ([] ++ _) _ from H); rw [List.nil_append] at H
  simp only [List.nil_append, List.cons_append] at hG
  have e0 : yy 0 = _ := gh_get hG 0 rfl
  have e1 : yy 1 = _ := gh_get hG 1 rfl
  have e2 : yy 2 = _ := gh_get hG 2 rfl
  have e3 : yy 3 = _ := gh_get hG 3 rfl
  have e4 : yy 4 = _ := gh_get hG 4 rfl
  have e5 : yy 5 = _ := gh_get hG 5 rfl
  have e6 : yy 6 = _ := gh_get hG 6 rfl
  have e7 : yy 7 = _ := gh_get hG 7 rfl
  have e8 : yy 8 = _ := gh_get hG 8 rfl
  have e9 : yy 9 = _ := gh_get hG 9 rfl
  have e10 : yy 10 = _ := gh_get hG 10 rfl
  have e11 : yy 11 = _ := gh_get hG 11 rfl
  have e12 : yy 12 = _ := gh_get hG 12 rfl
  have e13 : yy 13 = _ := gh_get hG 13 rfl
  have e14 : yy 14 = _ := gh_get hG 14 rfl
  have e15 : yy 15 = _ := gh_get hG 15 rfl
  have e16 : yy 16 = _ := gh_get hG 16 rfl
  have e17 : yy 17 = _ := gh_get hG 17 rfl
  have e18 : yy 18 = _ := gh_get hG 18 rfl
  have e19 : yy 19 = _ := gh_get hG 19 rfl
  have e20 : yy 20 = _ := gh_get hG 20 rfl
  have e21 : yy 21 = _ := gh_get hG 21 rfl
  have e22 : yy 22 = _ := gh_get hG 22 rfl
  have e23 : yy 23 = _ := gh_get hG 23 rfl
  have e24 : yy 24 = _ := gh_get hG 24 rfl
  have e25 : yy 25 = _ := gh_get hG 25 rfl
  simp only [e0, e1, e2, e3, e4, e5, e6, e7, e8, e9, e10, e11, e12, e13, e14, e15, e16, e17, e18, e19, e20, e21, e22, e23, e24, e25]
  clear hG e0 e1 e2 e3 e4 e5 e6 e7 e8 e9 e10 e11 e12 e13 e14 e15 e16 e17 e18 e19 e20 e21 e22 e23 e24 e25
  refine list_end ?_
  refine then_norm ?_
  refine wp_ret ?_
  exact ret1 rfl (rv_tmp rfl) rfl ⟨m, rfl, s3, hs3, H⟩
end Go.Proofs.Yticpadjheelipaa
