/- Walks, printed by fx.py: part 3. -/
import Derived.Test.YtemdmpgekegfhaaTab2
namespace Go.Proofs.Ytemdmpgekegfhaa
open Go.RowKit
set_option linter.all false
set_option maxRecDepth 10000
def assayerref04_Final_l7 (u1 : Txn) (a1 : Wr) : Nat → List Op' → Option ((Bool ⊕ Unit))
  | k7, []  => some (.inr ())
  | k7, x7 :: r7 => if (assayerref04_write_f x7) = true then ((rdI u1.ops a1.op).bind fun u4 => if (x7.key.toList == u4.key.toList) = true then (some (.inl false)) else (assayerref04_Final_l7 u1 a1 (k7 + 1) r7)) else (assayerref04_Final_l7 u1 a1 (k7 + 1) r7)

def assayerref04_Final_f (a0 : List Txn) (a1 : Wr) : Option Bool := if (((decide (a1.txn < 0)) || (decide (a1.txn ≥ (a0.length : Int)))) || (decide (a1.op < 0))) = true then (some false) else ((rdI a0 a1.txn).bind fun u1 => if (decide (a1.op ≥ (u1.ops.length : Int))) = true then (some false) else ((rdI u1.ops a1.op).bind fun u2 => if (!(assayerref04_write_f u2)) = true then (some false) else ((sliI u1.ops (IntKind.i64.wrap (a1.op + 1))).bind fun u3 => (assayerref04_Final_l7 u1 a1 0 u3).bind fun | .inl z7_r => (some z7_r) | .inr () => (some true))))

set_option maxHeartbeats 4000000 in
theorem assayerref04_Final_w {E : World} {s : SH} {L : List HP} {w : World} {a0 : List Txn} {a1 : Wr} {A_p0 : Option Addr} {c_p0 : Nat} (h_p0 : kT.Sl s (.slice A_p0 a0.length c_p0) a0) {R : Bool} (hm : assayerref04_Final_f a0 a1 = some R) (H : Holds E s (L) w) :
    Calls Try.prog 24 #[.slice A_p0 a0.length c_p0, .agg #[.int .i64 a1.txn, .int .i64 a1.op]] w fun e w' => e = .returned (.bool R) ∧ Holds E s (L) w' := by
  unfold assayerref04_Final_f at hm
  go_enter Try.func24, Try.ntmps24
  refine wp_seq ?_
  refine wp_region_lit ?_
  refine OpG.list rfl ?_; refine B_x 41 _ rfl (v := .agg #[.int .i64 a1.txn, .int .i64 a1.op]) rfl H ?_; clear H; intro b3 w1 H; (try simp only [Value.cells] at H)
  (try simp only [Act.put, List.setIfInBounds_toArray, List.set_cons_succ, List.set_cons_zero])
  apply seq_op (V := .bool false) rfl
  · intro Φ hΦ; refine O_as rfl rfl ?_; exact hΦ
  (try simp only [Act.put, List.setIfInBounds_toArray, List.set_cons_succ, List.set_cons_zero])
  refine list_end ?_
  refine then_norm ?_
  refine wp_seq ?_
  refine wp_seq ?_
  rcases Bool.eq_false_or_eq_true (((decide (a1.txn < 0)) || (decide (a1.txn ≥ (a0.length : Int)))) || (decide (a1.op < 0))) with hg1 | hg1
  · replace hm := ifT hg1 hm
    refine wp_draw_obO (k := 27) (sz := 72) (List.replicate 27 27) (fun _ => []) mixed (by simp) rfl (by kernel_rfl) (by kernel_rfl) (by kernel_rfl) H (by simp only [List.take_succ_cons, List.take_zero]; exact rfl) (by simp only [List.drop_succ_cons, List.drop_zero]; exact rfl)
      (fun y => by simp only [ov, Act.put, List.setIfInBounds_toArray, List.set_cons_succ, List.set_cons_zero, Nat.zero_add, Nat.reduceAdd]; exact rfl) ?_
    apply ObO.valw (V := .pointer (some ⟨b3, 0, none⟩))
    · intro x; rfl
    · intro s' w' y Φ R hs H hG hΦ; refine wantG rfl ?_; refine O_fld rfl Try.underlying41 rfl (Try.sizeOf3 _) rfl ?_; exact hΦ _ _ (Sub.refl _) H
    apply ObO.valw (V := .int .i64 a1.txn)
    · intro x; rfl
    · intro s' w' y Φ R hs H hG hΦ; simp only [List.nil_append, List.cons_append] at hG; have e0 : y 0 = _ := dh_get hG 0 rfl (by kernel_rfl); simp only [e0]; refine wantG rfl ?_; refine L_1 0 _ _ rfl (Try.isAgg3 _) rfl H rfl rfl ?_; exact hΦ _ _ (Sub.refl _) H
    apply ObO.valw (V := .bool (decide (a1.txn < 0)))
    · intro x; rfl
    · intro s' w' y Φ R hs H hG hΦ; simp only [List.nil_append, List.cons_append] at hG; have e1 : y 1 = _ := dh_get hG 1 rfl (by kernel_rfl); simp only [e1]; refine wantG rfl ?_; refine O_bin rfl rfl rfl eqg_int r_lss ?_; exact hΦ _ _ (Sub.refl _) H
    apply ObO.valw (V := .bool (decide (a1.txn < 0)))
    · intro x; rfl
    · intro s' w' y Φ R hs H hG hΦ; simp only [List.nil_append, List.cons_append] at hG; have e2 : y 2 = _ := dh_get hG 2 rfl (by kernel_rfl); simp only [e2]; refine wantG rfl ?_; refine O_mv rfl rfl ?_; exact hΦ _ _ (Sub.refl _) H
    apply ObO.valg (V := .pointer (some ⟨b3, 0, none⟩)) (c := !(decide (a1.txn < 0)))
    · intro x; rfl
    · intro s' y hG; simp only [List.nil_append, List.cons_append] at hG; have eg : y 3 = _ := dh_get hG 3 rfl (by kernel_rfl); simp only [eg]; first | exact wanted_f rfl rfl rfl | exact wanted_vf rfl rfl rfl
    · intro hc s' w' y Φ R hs H hG hΦ; refine O_fld rfl Try.underlying41 rfl (Try.sizeOf3 _) rfl ?_; exact hΦ _ _ (Sub.refl _) H
    apply ObO.valg (V := .int .i64 a1.txn) (c := !(decide (a1.txn < 0)))
    · intro x; rfl
    · intro s' y hG; simp only [List.nil_append, List.cons_append] at hG; have eg : y 3 = _ := dh_get hG 3 rfl (by kernel_rfl); simp only [eg]; first | exact wanted_f rfl rfl rfl | exact wanted_vf rfl rfl rfl
    · intro hc s' w' y Φ R hs H hG hΦ; simp only [List.nil_append, List.cons_append] at hG; have e4 : y 4 = _ := dh_get hG 4 rfl (by kernel_rfl); (first | rw [vg_of hc] at e4 | rw [vg_of (and_l hc)] at e4 | rw [vg_of (and_l (and_l hc))] at e4 | rw [vg_of (and_l (and_l (and_l hc)))] at e4 | rw [vg_and hc] at e4 | skip); simp only [e4]; refine L_1 0 _ _ rfl (Try.isAgg3 _) rfl H rfl rfl ?_; exact hΦ _ _ (Sub.refl _) H
    apply ObO.valg (V := .slice A_p0 a0.length c_p0) (c := !(decide (a1.txn < 0)))
    · intro x; rfl
    · intro s' y hG; simp only [List.nil_append, List.cons_append] at hG; have eg : y 3 = _ := dh_get hG 3 rfl (by kernel_rfl); simp only [eg]; first | exact wanted_f rfl rfl rfl | exact wanted_vf rfl rfl rfl
    · intro hc s' w' y Φ R hs H hG hΦ; refine O_mv rfl rfl ?_; exact hΦ _ _ (Sub.refl _) H
    apply ObO.valg (V := .int .i64 (a0.length : Int)) (c := !(decide (a1.txn < 0)))
    · intro x; rfl
    · intro s' y hG; simp only [List.nil_append, List.cons_append] at hG; have eg : y 3 = _ := dh_get hG 3 rfl (by kernel_rfl); simp only [eg]; first | exact wanted_f rfl rfl rfl | exact wanted_vf rfl rfl rfl
    · intro hc s' w' y Φ R hs H hG hΦ; simp only [List.nil_append, List.cons_append] at hG; have e6 : y 6 = _ := dh_get hG 6 rfl (by kernel_rfl); (first | rw [vg_of hc] at e6 | rw [vg_of (and_l hc)] at e6 | rw [vg_of (and_l (and_l hc))] at e6 | rw [vg_of (and_l (and_l (and_l hc)))] at e6 | rw [vg_and hc] at e6 | skip); simp only [e6]; refine O_len rfl Try.underlying22 rfl ?_; exact hΦ _ _ (Sub.refl _) H
    apply ObO.valg (V := .bool (decide (a1.txn ≥ (a0.length : Int)))) (c := !(decide (a1.txn < 0)))
    · intro x; rfl
    · intro s' y hG; simp only [List.nil_append, List.cons_append] at hG; have eg : y 3 = _ := dh_get hG 3 rfl (by kernel_rfl); simp only [eg]; first | exact wanted_f rfl rfl rfl | exact wanted_vf rfl rfl rfl
    · intro hc s' w' y Φ R hs H hG hΦ; simp only [List.nil_append, List.cons_append] at hG; have e5 : y 5 = _ := dh_get hG 5 rfl (by kernel_rfl); have e7 : y 7 = _ := dh_get hG 7 rfl (by kernel_rfl); (first | rw [vg_of hc] at e5 | rw [vg_of (and_l hc)] at e5 | rw [vg_of (and_l (and_l hc))] at e5 | rw [vg_of (and_l (and_l (and_l hc)))] at e5 | rw [vg_and hc] at e5 | skip); (first | rw [vg_of hc] at e7 | rw [vg_of (and_l hc)] at e7 | rw [vg_of (and_l (and_l hc))] at e7 | rw [vg_of (and_l (and_l (and_l hc)))] at e7 | rw [vg_and hc] at e7 | skip); simp only [e5, e7]; refine O_bin rfl rfl rfl eqg_int r_geq ?_; exact hΦ _ _ (Sub.refl _) H
    apply ObO.valw (V := .bool ((decide (a1.txn < 0)) || (decide (a1.txn ≥ (a0.length : Int)))))
    · intro x; rfl
    · intro s' w' y Φ R hs H hG hΦ; simp only [List.nil_append, List.cons_append] at hG; have e3 : y 3 = _ := dh_get hG 3 rfl (by kernel_rfl); have e8 : y 8 = _ := dh_get hG 8 rfl (by kernel_rfl); simp only [e3, e8]; refine wantG rfl ?_; refine G_or _ _ _ rfl rfl rfl rfl ?_; exact hΦ _ _ (Sub.refl _) H
    apply ObO.valw (V := .bool ((decide (a1.txn < 0)) || (decide (a1.txn ≥ (a0.length : Int)))))
    · intro x; rfl
    · intro s' w' y Φ R hs H hG hΦ; simp only [List.nil_append, List.cons_append] at hG; have e9 : y 9 = _ := dh_get hG 9 rfl (by kernel_rfl); simp only [e9]; refine wantG rfl ?_; refine O_mv rfl rfl ?_; exact hΦ _ _ (Sub.refl _) H
    apply ObO.valg (V := .pointer (some ⟨b3, 1, none⟩)) (c := !((decide (a1.txn < 0)) || (decide (a1.txn ≥ (a0.length : Int)))))
    · intro x; rfl
    · intro s' y hG; simp only [List.nil_append, List.cons_append] at hG; have eg : y 10 = _ := dh_get hG 10 rfl (by kernel_rfl); simp only [eg]; first | exact wanted_f rfl rfl rfl | exact wanted_vf rfl rfl rfl
    · intro hc s' w' y Φ R hs H hG hΦ; refine O_fld rfl Try.underlying41 rfl (Try.sizeOf3 _) rfl ?_; exact hΦ _ _ (Sub.refl _) H
    apply ObO.valg (V := .int .i64 a1.op) (c := !((decide (a1.txn < 0)) || (decide (a1.txn ≥ (a0.length : Int)))))
    · intro x; rfl
    · intro s' y hG; simp only [List.nil_append, List.cons_append] at hG; have eg : y 10 = _ := dh_get hG 10 rfl (by kernel_rfl); simp only [eg]; first | exact wanted_f rfl rfl rfl | exact wanted_vf rfl rfl rfl
    · intro hc s' w' y Φ R hs H hG hΦ; simp only [List.nil_append, List.cons_append] at hG; have e11 : y 11 = _ := dh_get hG 11 rfl (by kernel_rfl); (first | rw [vg_of hc] at e11 | rw [vg_of (and_l hc)] at e11 | rw [vg_of (and_l (and_l hc))] at e11 | rw [vg_of (and_l (and_l (and_l hc)))] at e11 | rw [vg_and hc] at e11 | skip); simp only [e11]; refine L_1 0 _ _ rfl (Try.isAgg3 _) rfl H rfl rfl ?_; exact hΦ _ _ (Sub.refl _) H
    apply ObO.valg (V := .bool (decide (a1.op < 0))) (c := !((decide (a1.txn < 0)) || (decide (a1.txn ≥ (a0.length : Int)))))
    · intro x; rfl
    · intro s' y hG; simp only [List.nil_append, List.cons_append] at hG; have eg : y 10 = _ := dh_get hG 10 rfl (by kernel_rfl); simp only [eg]; first | exact wanted_f rfl rfl rfl | exact wanted_vf rfl rfl rfl
    · intro hc s' w' y Φ R hs H hG hΦ; simp only [List.nil_append, List.cons_append] at hG; have e12 : y 12 = _ := dh_get hG 12 rfl (by kernel_rfl); (first | rw [vg_of hc] at e12 | rw [vg_of (and_l hc)] at e12 | rw [vg_of (and_l (and_l hc))] at e12 | rw [vg_of (and_l (and_l (and_l hc)))] at e12 | rw [vg_and hc] at e12 | skip); simp only [e12]; refine O_bin rfl rfl rfl eqg_int r_lss ?_; exact hΦ _ _ (Sub.refl _) H
    apply ObO.valw (V := .bool (((decide (a1.txn < 0)) || (decide (a1.txn ≥ (a0.length : Int)))) || (decide (a1.op < 0))))
    · intro x; rfl
    · intro s' w' y Φ R hs H hG hΦ; simp only [List.nil_append, List.cons_append] at hG; have e10 : y 10 = _ := dh_get hG 10 rfl (by kernel_rfl); have e13 : y 13 = _ := dh_get hG 13 rfl (by kernel_rfl); simp only [e10, e13]; refine wantG rfl ?_; refine G_or _ _ _ rfl rfl rfl rfl ?_; exact hΦ _ _ (Sub.refl _) H
    apply ObO.valw (V := .bool (((decide (a1.txn < 0)) || (decide (a1.txn ≥ (a0.length : Int)))) || (decide (a1.op < 0))))
    · intro x; rfl
    · intro s' w' y Φ R hs H hG hΦ; simp only [List.nil_append, List.cons_append] at hG; have e14 : y 14 = _ := dh_get hG 14 rfl (by kernel_rfl); simp only [e14]; refine wantG rfl ?_; refine O_mv rfl rfl ?_; exact hΦ _ _ (Sub.refl _) H
    apply ObO.valw (V := undef)
    · intro x; rfl
    · intro s' w' y Φ R hs H hG hΦ; simp only [List.nil_append, List.cons_append] at hG; have eg : y 15 = _ := dh_get hG 15 rfl (by kernel_rfl); simp only [eg]; refine wantU ((wanted_f rfl rfl rfl).trans (congrArg not hg1)) ?_; exact hΦ _ _ (Sub.refl _) H
    apply ObO.valw (V := undef)
    · intro x; rfl
    · intro s' w' y Φ R hs H hG hΦ; simp only [List.nil_append, List.cons_append] at hG; have e16 : y 16 = _ := dh_get hG 16 rfl (by kernel_rfl); have eg : y 15 = _ := dh_get hG 15 rfl (by kernel_rfl); simp only [eg, e16]; refine wantU ((wanted_f rfl rfl rfl).trans (congrArg not hg1)) ?_; exact hΦ _ _ (Sub.refl _) H
    apply ObO.valw (V := undef)
    · intro x; rfl
    · intro s' w' y Φ R hs H hG hΦ; simp only [List.nil_append, List.cons_append] at hG; have eg : y 15 = _ := dh_get hG 15 rfl (by kernel_rfl); simp only [eg]; refine wantU ((wanted_f rfl rfl rfl).trans (congrArg not hg1)) ?_; exact hΦ _ _ (Sub.refl _) H
    apply ObO.valw (V := undef)
    · intro x; rfl
    · intro s' w' y Φ R hs H hG hΦ; simp only [List.nil_append, List.cons_append] at hG; have eg : y 15 = _ := dh_get hG 15 rfl (by kernel_rfl); simp only [eg]; refine wantU ((wanted_f rfl rfl rfl).trans (congrArg not hg1)) ?_; exact hΦ _ _ (Sub.refl _) H
    apply ObO.valw (V := undef)
    · intro x; rfl
    · intro s' w' y Φ R hs H hG hΦ; simp only [List.nil_append, List.cons_append] at hG; have e19 : y 19 = _ := dh_get hG 19 rfl (by kernel_rfl); have eg : y 15 = _ := dh_get hG 15 rfl (by kernel_rfl); simp only [eg, e19]; refine wantU ((wanted_f rfl rfl rfl).trans (congrArg not hg1)) ?_; exact hΦ _ _ (Sub.refl _) H
    apply ObO.valw (V := undef)
    · intro x; rfl
    · intro s' w' y Φ R hs H hG hΦ; simp only [List.nil_append, List.cons_append] at hG; have e18 : y 18 = _ := dh_get hG 18 rfl (by kernel_rfl); have e20 : y 20 = _ := dh_get hG 20 rfl (by kernel_rfl); have eg : y 15 = _ := dh_get hG 15 rfl (by kernel_rfl); simp only [eg, e18, e20]; refine wantU ((wanted_f rfl rfl rfl).trans (congrArg not hg1)) ?_; exact hΦ _ _ (Sub.refl _) H
    apply ObO.valw (V := undef)
    · intro x; rfl
    · intro s' w' y Φ R hs H hG hΦ; simp only [List.nil_append, List.cons_append] at hG; have e21 : y 21 = _ := dh_get hG 21 rfl (by kernel_rfl); have eg : y 15 = _ := dh_get hG 15 rfl (by kernel_rfl); simp only [eg, e21]; refine wantU ((wanted_f rfl rfl rfl).trans (congrArg not hg1)) ?_; exact hΦ _ _ (Sub.refl _) H
    apply ObO.valw (V := undef)
    · intro x; rfl
    · intro s' w' y Φ R hs H hG hΦ; simp only [List.nil_append, List.cons_append] at hG; have e22 : y 22 = _ := dh_get hG 22 rfl (by kernel_rfl); have eg : y 15 = _ := dh_get hG 15 rfl (by kernel_rfl); simp only [eg, e22]; refine wantU ((wanted_f rfl rfl rfl).trans (congrArg not hg1)) ?_; exact hΦ _ _ (Sub.refl _) H
    apply ObO.valw (V := undef)
    · intro x; rfl
    · intro s' w' y Φ R hs H hG hΦ; simp only [List.nil_append, List.cons_append] at hG; have e23 : y 23 = _ := dh_get hG 23 rfl (by kernel_rfl); have eg : y 15 = _ := dh_get hG 15 rfl (by kernel_rfl); simp only [eg, e23]; refine wantU ((wanted_f rfl rfl rfl).trans (congrArg not hg1)) ?_; exact hΦ _ _ (Sub.refl _) H
    apply ObO.valw (V := undef)
    · intro x; rfl
    · intro s' w' y Φ R hs H hG hΦ; simp only [List.nil_append, List.cons_append] at hG; have e17 : y 17 = _ := dh_get hG 17 rfl (by kernel_rfl); have e24 : y 24 = _ := dh_get hG 24 rfl (by kernel_rfl); have eg : y 15 = _ := dh_get hG 15 rfl (by kernel_rfl); simp only [eg, e17, e24]; refine wantU ((wanted_f rfl rfl rfl).trans (congrArg not hg1)) ?_; exact hΦ _ _ (Sub.refl _) H
    apply ObO.valw (V := .bool true)
    · intro x; rfl
    · intro s' w' y Φ R hs H hG hΦ; simp only [List.nil_append, List.cons_append] at hG; have e15 : y 15 = _ := dh_get hG 15 rfl (by kernel_rfl); have e25 : y 25 = _ := dh_get hG 25 rfl (by kernel_rfl); simp only [e15, e25]; refine wantG rfl ?_; refine O_pickT rfl rfl hg1 rfl ?_; exact hΦ _ _ (Sub.refl _) H
    clear H
    intro s3 w3 yy hs3 H hG
    replace H := (show Holds _ _ ([] ++ _) _ from H); rw [List.nil_append] at H
    simp only [List.nil_append, List.cons_append] at hG
    have e0 : yy 0 = _ := gh_get hG 0 rfl
    have e1 : yy 1 = _ := gh_get hG 1 rfl
    have e2 : yy 2 = _ := gh_get hG 2 rfl
    have e3 : yy 3 = _ := gh_get hG 3 rfl
    have e4 : yy 4 = _ := gh_get hG 4 rfl
    have e5 : yy 5 = _ := gh_get hG 5 rfl
    have e6 : yy 6 = _ := gh_get hG 6 rfl
    have e7 : yy 7 = _ := gh_get hG 7 rfl
    have e8 : yy 8 = _ := gh_get hG 8 rfl
    have e9 : yy 9 = _ := gh_get hG 9 rfl
    have e10 : yy 10 = _ := gh_get hG 10 rfl
    have e11 : yy 11 = _ := gh_get hG 11 rfl
    have e12 : yy 12 = _ := gh_get hG 12 rfl
    have e13 : yy 13 = _ := gh_get hG 13 rfl
    have e14 : yy 14 = _ := gh_get hG 14 rfl
    have e15 : yy 15 = _ := gh_get hG 15 rfl
    have e16 : yy 16 = _ := gh_get hG 16 rfl
    have e17 : yy 17 = _ := gh_get hG 17 rfl
    have e18 : yy 18 = _ := gh_get hG 18 rfl
    have e19 : yy 19 = _ := gh_get hG 19 rfl
    have e20 : yy 20 = _ := gh_get hG 20 rfl
    have e21 : yy 21 = _ := gh_get hG 21 rfl
    have e22 : yy 22 = _ := gh_get hG 22 rfl
    have e23 : yy 23 = _ := gh_get hG 23 rfl
    have e24 : yy 24 = _ := gh_get hG 24 rfl
    have e25 : yy 25 = _ := gh_get hG 25 rfl
    have e26 : yy 26 = _ := gh_get hG 26 rfl
    simp only [e0, e1, e2, e3, e4, e5, e6, e7, e8, e9, e10, e11, e12, e13, e14, e15, e16, e17, e18, e19, e20, e21, e22, e23, e24, e25, e26]
    clear hG e0 e1 e2 e3 e4 e5 e6 e7 e8 e9 e10 e11 e12 e13 e14 e15 e16 e17 e18 e19 e20 e21 e22 e23 e24 e25 e26
    replace H := H.forget hs3; clear hs3
    refine list_end ?_
    refine then_norm ?_
    refine wp_cond_true rfl ?_
    refine wp_seq ?_
    refine wp_region_lit ?_
    apply seq_op (V := .bool false) rfl
    · intro Φ hΦ; refine O_as rfl rfl ?_; exact hΦ
    (try simp only [Act.put, List.setIfInBounds_toArray, List.set_cons_succ, List.set_cons_zero])
    refine list_end ?_
    refine then_norm ?_
    refine wp_ret ?_
    refine then_ret ?_
    have hm := Option.some.inj hm
    subst hm
    replace H := H.dropAt 0 rfl; simp only [List.eraseIdx_cons_succ, List.eraseIdx_cons_zero] at H
    exact ret1 rfl (rv_tmp rfl) rfl ⟨rfl, H⟩
  · replace hm := ifF hg1 hm
    obtain ⟨u1, gx1, hm⟩ := bs hm
    obtain ⟨kk1, gk1, gl1, gd1⟩ := rdI_some gx1
    obtain ⟨be1, oe1, A4e1, c4e1, rfl, hCe1, h0e1, h1e1, h2e1, h3e1, h4e1⟩ := kT_el h_p0 gd1
    refine wp_draw_obO (k := 27) (sz := 72) (List.replicate 27 27) (fun _ => []) mixed (by simp) rfl (by kernel_rfl) (by kernel_rfl) (by kernel_rfl) H (by simp only [List.take_succ_cons, List.take_zero]; exact rfl) (by simp only [List.drop_succ_cons, List.drop_zero]; exact rfl)
      (fun y => by simp only [ov, Act.put, List.setIfInBounds_toArray, List.set_cons_succ, List.set_cons_zero, Nat.zero_add, Nat.reduceAdd]; exact rfl) ?_
    apply ObO.valw (V := .pointer (some ⟨b3, 0, none⟩))
    · intro x; rfl
    · intro s' w' y Φ R hs H hG hΦ; refine wantG rfl ?_; refine O_fld rfl Try.underlying41 rfl (Try.sizeOf3 _) rfl ?_; exact hΦ _ _ (Sub.refl _) H
    apply ObO.valw (V := .int .i64 a1.txn)
    · intro x; rfl
    · intro s' w' y Φ R hs H hG hΦ; simp only [List.nil_append, List.cons_append] at hG; have e0 : y 0 = _ := dh_get hG 0 rfl (by kernel_rfl); simp only [e0]; refine wantG rfl ?_; refine L_1 0 _ _ rfl (Try.isAgg3 _) rfl H rfl rfl ?_; exact hΦ _ _ (Sub.refl _) H
    apply ObO.valw (V := .bool (decide (a1.txn < 0)))
    · intro x; rfl
    · intro s' w' y Φ R hs H hG hΦ; simp only [List.nil_append, List.cons_append] at hG; have e1 : y 1 = _ := dh_get hG 1 rfl (by kernel_rfl); simp only [e1]; refine wantG rfl ?_; refine O_bin rfl rfl rfl eqg_int r_lss ?_; exact hΦ _ _ (Sub.refl _) H
    apply ObO.valw (V := .bool (decide (a1.txn < 0)))
    · intro x; rfl
    · intro s' w' y Φ R hs H hG hΦ; simp only [List.nil_append, List.cons_append] at hG; have e2 : y 2 = _ := dh_get hG 2 rfl (by kernel_rfl); simp only [e2]; refine wantG rfl ?_; refine O_mv rfl rfl ?_; exact hΦ _ _ (Sub.refl _) H
    apply ObO.valg (V := .pointer (some ⟨b3, 0, none⟩)) (c := !(decide (a1.txn < 0)))
    · intro x; rfl
    · intro s' y hG; simp only [List.nil_append, List.cons_append] at hG; have eg : y 3 = _ := dh_get hG 3 rfl (by kernel_rfl); simp only [eg]; first | exact wanted_f rfl rfl rfl | exact wanted_vf rfl rfl rfl
    · intro hc s' w' y Φ R hs H hG hΦ; refine O_fld rfl Try.underlying41 rfl (Try.sizeOf3 _) rfl ?_; exact hΦ _ _ (Sub.refl _) H
    apply ObO.valg (V := .int .i64 a1.txn) (c := !(decide (a1.txn < 0)))
    · intro x; rfl
    · intro s' y hG; simp only [List.nil_append, List.cons_append] at hG; have eg : y 3 = _ := dh_get hG 3 rfl (by kernel_rfl); simp only [eg]; first | exact wanted_f rfl rfl rfl | exact wanted_vf rfl rfl rfl
    · intro hc s' w' y Φ R hs H hG hΦ; simp only [List.nil_append, List.cons_append] at hG; have e4 : y 4 = _ := dh_get hG 4 rfl (by kernel_rfl); (first | rw [vg_of hc] at e4 | rw [vg_of (and_l hc)] at e4 | rw [vg_of (and_l (and_l hc))] at e4 | rw [vg_of (and_l (and_l (and_l hc)))] at e4 | rw [vg_and hc] at e4 | skip); simp only [e4]; refine L_1 0 _ _ rfl (Try.isAgg3 _) rfl H rfl rfl ?_; exact hΦ _ _ (Sub.refl _) H
    apply ObO.valg (V := .slice (some ⟨be1, oe1, none⟩) a0.length c_p0) (c := !(decide (a1.txn < 0)))
    · intro x; rfl
    · intro s' y hG; simp only [List.nil_append, List.cons_append] at hG; have eg : y 3 = _ := dh_get hG 3 rfl (by kernel_rfl); simp only [eg]; first | exact wanted_f rfl rfl rfl | exact wanted_vf rfl rfl rfl
    · intro hc s' w' y Φ R hs H hG hΦ; refine O_mv rfl rfl ?_; exact hΦ _ _ (Sub.refl _) H
    apply ObO.valg (V := .int .i64 (a0.length : Int)) (c := !(decide (a1.txn < 0)))
    · intro x; rfl
    · intro s' y hG; simp only [List.nil_append, List.cons_append] at hG; have eg : y 3 = _ := dh_get hG 3 rfl (by kernel_rfl); simp only [eg]; first | exact wanted_f rfl rfl rfl | exact wanted_vf rfl rfl rfl
    · intro hc s' w' y Φ R hs H hG hΦ; simp only [List.nil_append, List.cons_append] at hG; have e6 : y 6 = _ := dh_get hG 6 rfl (by kernel_rfl); (first | rw [vg_of hc] at e6 | rw [vg_of (and_l hc)] at e6 | rw [vg_of (and_l (and_l hc))] at e6 | rw [vg_of (and_l (and_l (and_l hc)))] at e6 | rw [vg_and hc] at e6 | skip); simp only [e6]; refine O_len rfl Try.underlying22 rfl ?_; exact hΦ _ _ (Sub.refl _) H
    apply ObO.valg (V := .bool (decide (a1.txn ≥ (a0.length : Int)))) (c := !(decide (a1.txn < 0)))
    · intro x; rfl
    · intro s' y hG; simp only [List.nil_append, List.cons_append] at hG; have eg : y 3 = _ := dh_get hG 3 rfl (by kernel_rfl); simp only [eg]; first | exact wanted_f rfl rfl rfl | exact wanted_vf rfl rfl rfl
    · intro hc s' w' y Φ R hs H hG hΦ; simp only [List.nil_append, List.cons_append] at hG; have e5 : y 5 = _ := dh_get hG 5 rfl (by kernel_rfl); have e7 : y 7 = _ := dh_get hG 7 rfl (by kernel_rfl); (first | rw [vg_of hc] at e5 | rw [vg_of (and_l hc)] at e5 | rw [vg_of (and_l (and_l hc))] at e5 | rw [vg_of (and_l (and_l (and_l hc)))] at e5 | rw [vg_and hc] at e5 | skip); (first | rw [vg_of hc] at e7 | rw [vg_of (and_l hc)] at e7 | rw [vg_of (and_l (and_l hc))] at e7 | rw [vg_of (and_l (and_l (and_l hc)))] at e7 | rw [vg_and hc] at e7 | skip); simp only [e5, e7]; refine O_bin rfl rfl rfl eqg_int r_geq ?_; exact hΦ _ _ (Sub.refl _) H
    apply ObO.valw (V := .bool ((decide (a1.txn < 0)) || (decide (a1.txn ≥ (a0.length : Int)))))
    · intro x; rfl
    · intro s' w' y Φ R hs H hG hΦ; simp only [List.nil_append, List.cons_append] at hG; have e3 : y 3 = _ := dh_get hG 3 rfl (by kernel_rfl); have e8 : y 8 = _ := dh_get hG 8 rfl (by kernel_rfl); simp only [e3, e8]; refine wantG rfl ?_; refine G_or _ _ _ rfl rfl rfl rfl ?_; exact hΦ _ _ (Sub.refl _) H
    apply ObO.valw (V := .bool ((decide (a1.txn < 0)) || (decide (a1.txn ≥ (a0.length : Int)))))
    · intro x; rfl
    · intro s' w' y Φ R hs H hG hΦ; simp only [List.nil_append, List.cons_append] at hG; have e9 : y 9 = _ := dh_get hG 9 rfl (by kernel_rfl); simp only [e9]; refine wantG rfl ?_; refine O_mv rfl rfl ?_; exact hΦ _ _ (Sub.refl _) H
    apply ObO.valg (V := .pointer (some ⟨b3, 1, none⟩)) (c := !((decide (a1.txn < 0)) || (decide (a1.txn ≥ (a0.length : Int)))))
    · intro x; rfl
    · intro s' y hG; simp only [List.nil_append, List.cons_append] at hG; have eg : y 10 = _ := dh_get hG 10 rfl (by kernel_rfl); simp only [eg]; first | exact wanted_f rfl rfl rfl | exact wanted_vf rfl rfl rfl
    · intro hc s' w' y Φ R hs H hG hΦ; refine O_fld rfl Try.underlying41 rfl (Try.sizeOf3 _) rfl ?_; exact hΦ _ _ (Sub.refl _) H
    apply ObO.valg (V := .int .i64 a1.op) (c := !((decide (a1.txn < 0)) || (decide (a1.txn ≥ (a0.length : Int)))))
    · intro x; rfl
    · intro s' y hG; simp only [List.nil_append, List.cons_append] at hG; have eg : y 10 = _ := dh_get hG 10 rfl (by kernel_rfl); simp only [eg]; first | exact wanted_f rfl rfl rfl | exact wanted_vf rfl rfl rfl
    · intro hc s' w' y Φ R hs H hG hΦ; simp only [List.nil_append, List.cons_append] at hG; have e11 : y 11 = _ := dh_get hG 11 rfl (by kernel_rfl); (first | rw [vg_of hc] at e11 | rw [vg_of (and_l hc)] at e11 | rw [vg_of (and_l (and_l hc))] at e11 | rw [vg_of (and_l (and_l (and_l hc)))] at e11 | rw [vg_and hc] at e11 | skip); simp only [e11]; refine L_1 0 _ _ rfl (Try.isAgg3 _) rfl H rfl rfl ?_; exact hΦ _ _ (Sub.refl _) H
    apply ObO.valg (V := .bool (decide (a1.op < 0))) (c := !((decide (a1.txn < 0)) || (decide (a1.txn ≥ (a0.length : Int)))))
    · intro x; rfl
    · intro s' y hG; simp only [List.nil_append, List.cons_append] at hG; have eg : y 10 = _ := dh_get hG 10 rfl (by kernel_rfl); simp only [eg]; first | exact wanted_f rfl rfl rfl | exact wanted_vf rfl rfl rfl
    · intro hc s' w' y Φ R hs H hG hΦ; simp only [List.nil_append, List.cons_append] at hG; have e12 : y 12 = _ := dh_get hG 12 rfl (by kernel_rfl); (first | rw [vg_of hc] at e12 | rw [vg_of (and_l hc)] at e12 | rw [vg_of (and_l (and_l hc))] at e12 | rw [vg_of (and_l (and_l (and_l hc)))] at e12 | rw [vg_and hc] at e12 | skip); simp only [e12]; refine O_bin rfl rfl rfl eqg_int r_lss ?_; exact hΦ _ _ (Sub.refl _) H
    apply ObO.valw (V := .bool (((decide (a1.txn < 0)) || (decide (a1.txn ≥ (a0.length : Int)))) || (decide (a1.op < 0))))
    · intro x; rfl
    · intro s' w' y Φ R hs H hG hΦ; simp only [List.nil_append, List.cons_append] at hG; have e10 : y 10 = _ := dh_get hG 10 rfl (by kernel_rfl); have e13 : y 13 = _ := dh_get hG 13 rfl (by kernel_rfl); simp only [e10, e13]; refine wantG rfl ?_; refine G_or _ _ _ rfl rfl rfl rfl ?_; exact hΦ _ _ (Sub.refl _) H
    apply ObO.valw (V := .bool (((decide (a1.txn < 0)) || (decide (a1.txn ≥ (a0.length : Int)))) || (decide (a1.op < 0))))
    · intro x; rfl
    · intro s' w' y Φ R hs H hG hΦ; simp only [List.nil_append, List.cons_append] at hG; have e14 : y 14 = _ := dh_get hG 14 rfl (by kernel_rfl); simp only [e14]; refine wantG rfl ?_; refine O_mv rfl rfl ?_; exact hΦ _ _ (Sub.refl _) H
    apply ObO.valw (V := .pointer (some ⟨b3, 1, none⟩))
    · intro x; rfl
    · intro s' w' y Φ R hs H hG hΦ; simp only [List.nil_append, List.cons_append] at hG; have eg : y 15 = _ := dh_get hG 15 rfl (by kernel_rfl); simp only [eg]; refine wantK ((wanted_f rfl rfl rfl).trans (congrArg not hg1)) ?_; refine O_fld rfl Try.underlying41 rfl (Try.sizeOf3 _) rfl ?_; exact hΦ _ _ (Sub.refl _) H
    apply ObO.valw (V := .int .i64 a1.op)
    · intro x; rfl
    · intro s' w' y Φ R hs H hG hΦ; simp only [List.nil_append, List.cons_append] at hG; have e16 : y 16 = _ := dh_get hG 16 rfl (by kernel_rfl); have eg : y 15 = _ := dh_get hG 15 rfl (by kernel_rfl); simp only [eg, e16]; refine wantK ((wanted_f rfl rfl rfl).trans (congrArg not hg1)) ?_; refine L_1 0 _ _ rfl (Try.isAgg3 _) rfl H rfl rfl ?_; exact hΦ _ _ (Sub.refl _) H
    apply ObO.valw (V := .slice (some ⟨be1, oe1, none⟩) a0.length c_p0)
    · intro x; rfl
    · intro s' w' y Φ R hs H hG hΦ; simp only [List.nil_append, List.cons_append] at hG; have eg : y 15 = _ := dh_get hG 15 rfl (by kernel_rfl); simp only [eg]; refine wantK ((wanted_f rfl rfl rfl).trans (congrArg not hg1)) ?_; refine O_mv rfl rfl ?_; exact hΦ _ _ (Sub.refl _) H
    apply ObO.valw (V := .pointer (some ⟨b3, 0, none⟩))
    · intro x; rfl
    · intro s' w' y Φ R hs H hG hΦ; simp only [List.nil_append, List.cons_append] at hG; have eg : y 15 = _ := dh_get hG 15 rfl (by kernel_rfl); simp only [eg]; refine wantK ((wanted_f rfl rfl rfl).trans (congrArg not hg1)) ?_; refine O_fld rfl Try.underlying41 rfl (Try.sizeOf3 _) rfl ?_; exact hΦ _ _ (Sub.refl _) H
    apply ObO.valw (V := .int .i64 a1.txn)
    · intro x; rfl
    · intro s' w' y Φ R hs H hG hΦ; simp only [List.nil_append, List.cons_append] at hG; have e19 : y 19 = _ := dh_get hG 19 rfl (by kernel_rfl); have eg : y 15 = _ := dh_get hG 15 rfl (by kernel_rfl); simp only [eg, e19]; refine wantK ((wanted_f rfl rfl rfl).trans (congrArg not hg1)) ?_; refine L_1 0 _ _ rfl (Try.isAgg3 _) rfl H rfl rfl ?_; exact hΦ _ _ (Sub.refl _) H
    apply ObO.valw (V := .pointer (some ⟨be1, oe1 + kk1 * 5, none⟩))
    · intro x; rfl
    · intro s' w' y Φ R hs H hG hΦ; simp only [List.nil_append, List.cons_append] at hG; have e18 : y 18 = _ := dh_get hG 18 rfl (by kernel_rfl); have e20 : y 20 = _ := dh_get hG 20 rfl (by kernel_rfl); have eg : y 15 = _ := dh_get hG 15 rfl (by kernel_rfl); simp only [eg, e18, e20]; refine wantK ((wanted_f rfl rfl rfl).trans (congrArg not hg1)) ?_; refine O_ix rfl Try.underlying22 (Try.sizeOf30 _) rfl rfl gk1 gl1 ?_; exact hΦ _ _ (Sub.refl _) H
    apply ObO.valw (V := .pointer (some ⟨be1, oe1 + kk1 * 5 + 4, none⟩))
    · intro x; rfl
    · intro s' w' y Φ R hs H hG hΦ; simp only [List.nil_append, List.cons_append] at hG; have e21 : y 21 = _ := dh_get hG 21 rfl (by kernel_rfl); have eg : y 15 = _ := dh_get hG 15 rfl (by kernel_rfl); simp only [eg, e21]; refine wantK ((wanted_f rfl rfl rfl).trans (congrArg not hg1)) ?_; refine O_fld rfl Try.underlying30 rfl (Try.sizeOf28 _) rfl ?_; exact hΦ _ _ (Sub.refl _) H
    apply ObO.valw (V := .slice A4e1 u1.ops.length c4e1)
    · intro x; rfl
    · intro s' w' y Φ R hs H hG hΦ; simp only [List.nil_append, List.cons_append] at hG; have e22 : y 22 = _ := dh_get hG 22 rfl (by kernel_rfl); have eg : y 15 = _ := dh_get hG 15 rfl (by kernel_rfl); simp only [eg, e22]; refine wantK ((wanted_f rfl rfl rfl).trans (congrArg not hg1)) ?_; refine G_s1 _ _ rfl (Try.isAgg28 _) rfl H (hCe1.mono hs) 4 rfl rfl ?_; exact hΦ _ _ (Sub.refl _) H
    apply ObO.valw (V := .int .i64 (u1.ops.length : Int))
    · intro x; rfl
    · intro s' w' y Φ R hs H hG hΦ; simp only [List.nil_append, List.cons_append] at hG; have e23 : y 23 = _ := dh_get hG 23 rfl (by kernel_rfl); have eg : y 15 = _ := dh_get hG 15 rfl (by kernel_rfl); simp only [eg, e23]; refine wantK ((wanted_f rfl rfl rfl).trans (congrArg not hg1)) ?_; refine O_len rfl Try.underlying28 rfl ?_; exact hΦ _ _ (Sub.refl _) H
    apply ObO.valw (V := .bool (decide (a1.op ≥ (u1.ops.length : Int))))
    · intro x; rfl
    · intro s' w' y Φ R hs H hG hΦ; simp only [List.nil_append, List.cons_append] at hG; have e17 : y 17 = _ := dh_get hG 17 rfl (by kernel_rfl); have e24 : y 24 = _ := dh_get hG 24 rfl (by kernel_rfl); have eg : y 15 = _ := dh_get hG 15 rfl (by kernel_rfl); simp only [eg, e17, e24]; refine wantK ((wanted_f rfl rfl rfl).trans (congrArg not hg1)) ?_; refine O_bin rfl rfl rfl eqg_int r_geq ?_; exact hΦ _ _ (Sub.refl _) H
    apply ObO.valw (V := .bool (decide (a1.op ≥ (u1.ops.length : Int))))
    · intro x; rfl
    · intro s' w' y Φ R hs H hG hΦ; simp only [List.nil_append, List.cons_append] at hG; have e15 : y 15 = _ := dh_get hG 15 rfl (by kernel_rfl); have e25 : y 25 = _ := dh_get hG 25 rfl (by kernel_rfl); simp only [e15, e25]; refine wantG rfl ?_; refine O_pickF rfl rfl hg1 rfl ?_; exact hΦ _ _ (Sub.refl _) H
    clear H
    intro s3 w3 yy hs3 H hG
    replace H := (show Holds _ _ ([] ++ _) _ from H); rw [List.nil_append] at H
    simp only [List.nil_append, List.cons_append] at hG
    have e0 : yy 0 = _ := gh_get hG 0 rfl
    have e1 : yy 1 = _ := gh_get hG 1 rfl
    have e2 : yy 2 = _ := gh_get hG 2 rfl
    have e3 : yy 3 = _ := gh_get hG 3 rfl
    have e4 : yy 4 = _ := gh_get hG 4 rfl
    have e5 : yy 5 = _ := gh_get hG 5 rfl
    have e6 : yy 6 = _ := gh_get hG 6 rfl
    have e7 : yy 7 = _ := gh_get hG 7 rfl
    have e8 : yy 8 = _ := gh_get hG 8 rfl
    have e9 : yy 9 = _ := gh_get hG 9 rfl
    have e10 : yy 10 = _ := gh_get hG 10 rfl
    have e11 : yy 11 = _ := gh_get hG 11 rfl
    have e12 : yy 12 = _ := gh_get hG 12 rfl
    have e13 : yy 13 = _ := gh_get hG 13 rfl
    have e14 : yy 14 = _ := gh_get hG 14 rfl
    have e15 : yy 15 = _ := gh_get hG 15 rfl
    have e16 : yy 16 = _ := gh_get hG 16 rfl
    have e17 : yy 17 = _ := gh_get hG 17 rfl
    have e18 : yy 18 = _ := gh_get hG 18 rfl
    have e19 : yy 19 = _ := gh_get hG 19 rfl
    have e20 : yy 20 = _ := gh_get hG 20 rfl
    have e21 : yy 21 = _ := gh_get hG 21 rfl
    have e22 : yy 22 = _ := gh_get hG 22 rfl
    have e23 : yy 23 = _ := gh_get hG 23 rfl
    have e24 : yy 24 = _ := gh_get hG 24 rfl
    have e25 : yy 25 = _ := gh_get hG 25 rfl
    have e26 : yy 26 = _ := gh_get hG 26 rfl
    simp only [e0, e1, e2, e3, e4, e5, e6, e7, e8, e9, e10, e11, e12, e13, e14, e15, e16, e17, e18, e19, e20, e21, e22, e23, e24, e25, e26]
    clear hG e0 e1 e2 e3 e4 e5 e6 e7 e8 e9 e10 e11 e12 e13 e14 e15 e16 e17 e18 e19 e20 e21 e22 e23 e24 e25 e26
    replace H := H.forget hs3; clear hs3
    refine list_end ?_
    refine then_norm ?_
    refine wp_cond_split rfl (fun hc => ?_) (fun hc => ?_)
    · have hc1 := hc
      clear hc
      replace hm := ifT hc1 hm
      refine wp_seq ?_
      refine wp_region_lit ?_
      apply seq_op (V := .bool false) rfl
      · intro Φ hΦ; refine O_as rfl rfl ?_; exact hΦ
      (try simp only [Act.put, List.setIfInBounds_toArray, List.set_cons_succ, List.set_cons_zero])
      refine list_end ?_
      refine then_norm ?_
      refine wp_ret ?_
      refine then_ret ?_
      have hm := Option.some.inj hm
      subst hm
      replace H := H.dropAt 0 rfl; simp only [List.eraseIdx_cons_succ, List.eraseIdx_cons_zero] at H
      exact ret1 rfl (rv_tmp rfl) rfl ⟨rfl, H⟩
    · have hc1 := hc
      clear hc
      replace hm := ifF hc1 hm
      refine wp_skip ?_
      refine then_norm ?_
      refine wp_seq ?_
      refine wp_region_lit ?_
      apply seq_op (V := .slice (some ⟨be1, oe1, none⟩) a0.length c_p0) rfl
      · intro Φ hΦ; refine O_mv rfl rfl ?_; exact hΦ
      (try simp only [Act.put, List.setIfInBounds_toArray, List.set_cons_succ, List.set_cons_zero])
      apply seq_op (V := .pointer (some ⟨b3, 0, none⟩)) rfl
      · intro Φ hΦ; refine O_fld rfl Try.underlying41 rfl (Try.sizeOf3 _) rfl ?_; exact hΦ
      (try simp only [Act.put, List.setIfInBounds_toArray, List.set_cons_succ, List.set_cons_zero])
      apply seq_op (V := .int .i64 a1.txn) rfl
      · intro Φ hΦ; refine L_1 0 _ _ rfl (Try.isAgg3 _) rfl H rfl rfl ?_; exact hΦ
      (try simp only [Act.put, List.setIfInBounds_toArray, List.set_cons_succ, List.set_cons_zero])
      apply seq_op (V := .pointer (some ⟨be1, oe1 + kk1 * 5, none⟩)) rfl
      · intro Φ hΦ; refine O_ix rfl Try.underlying22 (Try.sizeOf30 _) rfl rfl gk1 gl1 ?_; exact hΦ
      (try simp only [Act.put, List.setIfInBounds_toArray, List.set_cons_succ, List.set_cons_zero])
      apply seq_op (V := .pointer (some ⟨be1, oe1 + kk1 * 5 + 4, none⟩)) rfl
      · intro Φ hΦ; refine O_fld rfl Try.underlying30 rfl (Try.sizeOf28 _) rfl ?_; exact hΦ
      (try simp only [Act.put, List.setIfInBounds_toArray, List.set_cons_succ, List.set_cons_zero])
      apply seq_op (V := .slice A4e1 u1.ops.length c4e1) rfl
      · intro Φ hΦ; refine G_s1 _ _ rfl (Try.isAgg28 _) rfl H hCe1 4 rfl rfl ?_; exact hΦ
      (try simp only [Act.put, List.setIfInBounds_toArray, List.set_cons_succ, List.set_cons_zero])
      apply seq_op (V := .slice A4e1 u1.ops.length c4e1) rfl
      · intro Φ hΦ; refine O_as rfl rfl ?_; exact hΦ
      (try simp only [Act.put, List.setIfInBounds_toArray, List.set_cons_succ, List.set_cons_zero])
      refine list_end ?_
      refine then_norm ?_
      refine wp_seq ?_
      refine wp_seq ?_
      obtain ⟨u2, gx2, hm⟩ := bs hm
      obtain ⟨kk2, gk2, gl2, gd2⟩ := rdI_some gx2
      obtain ⟨be2, oe2, A3e2, c3e2, rfl, hCe2, h0e2, h1e2, h2e2, h3e2⟩ := kOp_el h4e1 gd2
      refine wp_region_lit ?_
      apply seq_op (V := .slice (some ⟨be2, oe2, none⟩) u1.ops.length c4e1) rfl
      · intro Φ hΦ; refine O_mv rfl rfl ?_; exact hΦ
      (try simp only [Act.put, List.setIfInBounds_toArray, List.set_cons_succ, List.set_cons_zero])
      apply seq_op (V := .pointer (some ⟨b3, 1, none⟩)) rfl
      · intro Φ hΦ; refine O_fld rfl Try.underlying41 rfl (Try.sizeOf3 _) rfl ?_; exact hΦ
      (try simp only [Act.put, List.setIfInBounds_toArray, List.set_cons_succ, List.set_cons_zero])
      apply seq_op (V := .int .i64 a1.op) rfl
      · intro Φ hΦ; refine L_1 0 _ _ rfl (Try.isAgg3 _) rfl H rfl rfl ?_; exact hΦ
      (try simp only [Act.put, List.setIfInBounds_toArray, List.set_cons_succ, List.set_cons_zero])
      apply seq_op (V := .pointer (some ⟨be2, oe2 + kk2 * 6, none⟩)) rfl
      · intro Φ hΦ; refine O_ix rfl Try.underlying28 (Try.sizeOf35 _) rfl rfl gk2 gl2 ?_; exact hΦ
      (try simp only [Act.put, List.setIfInBounds_toArray, List.set_cons_succ, List.set_cons_zero])
      apply seq_op (V := .agg #[.int .i64 u2.kind, .string u2.key, .int .i64 u2.value, .slice A3e2 u2.list.length c3e2, .bool u2.has, .bool u2.isNil]) rfl
      · intro Φ hΦ; refine G_sN _ _ rfl (Try.isAgg35 _) rfl H hCe2 (Try.sizeOf35 _) ?_; exact hΦ
      (try simp only [Act.put, List.setIfInBounds_toArray, List.set_cons_succ, List.set_cons_zero])
      refine seq_call rfl (fun Φ hΦ => by refine O_call1 rfl Try.func62 rfl rfl rfl hΦ) (assayerref04_write_w (a0 := u2) (h_p0_list := h3e2) (H := H)) ?_
      clear H
      rintro e w1 ⟨rfl, H⟩; refine ⟨_, rfl, ?_⟩
      (try simp only [Act.put, List.setIfInBounds_toArray, List.set_cons_succ, List.set_cons_zero])
      apply seq_op (V := .bool (!(assayerref04_write_f u2))) rfl
      · intro Φ hΦ; refine O_not rfl rfl ?_; exact hΦ
      (try simp only [Act.put, List.setIfInBounds_toArray, List.set_cons_succ, List.set_cons_zero])
      refine list_end ?_
      refine then_norm ?_
      refine wp_cond_split rfl (fun hc => ?_) (fun hc => ?_)
      · have hc2 := hc
        clear hc
        replace hm := ifT hc2 hm
        refine wp_seq ?_
        refine wp_region_lit ?_
        apply seq_op (V := .bool false) rfl
        · intro Φ hΦ; refine O_as rfl rfl ?_; exact hΦ
        (try simp only [Act.put, List.setIfInBounds_toArray, List.set_cons_succ, List.set_cons_zero])
        refine list_end ?_
        refine then_norm ?_
        refine wp_ret ?_
        refine then_ret ?_
        have hm := Option.some.inj hm
        subst hm
        replace H := H.dropAt 0 rfl; simp only [List.eraseIdx_cons_succ, List.eraseIdx_cons_zero] at H
        exact ret1 rfl (rv_tmp rfl) rfl ⟨rfl, H⟩
      · have hc2 := hc
        clear hc
        replace hm := ifF hc2 hm
        refine wp_skip ?_
        refine then_norm ?_
        refine wp_seq ?_
        refine wp_seq ?_
        obtain ⟨u3, gx3, hm⟩ := bs hm
        obtain ⟨kq1, Aq1, cq1, hiq1, hkq1, hAq1, hnq1, hcq1, hsq1⟩ := slI_sl h4e1 gx3
        refine wp_region_lit ?_
        apply seq_op (V := .slice (some ⟨be2, oe2, none⟩) u1.ops.length c4e1) rfl
        · intro Φ hΦ; refine O_mv rfl rfl ?_; exact hΦ
        (try simp only [Act.put, List.setIfInBounds_toArray, List.set_cons_succ, List.set_cons_zero])
        apply seq_op (V := .pointer (some ⟨b3, 1, none⟩)) rfl
        · intro Φ hΦ; refine O_fld rfl Try.underlying41 rfl (Try.sizeOf3 _) rfl ?_; exact hΦ
        (try simp only [Act.put, List.setIfInBounds_toArray, List.set_cons_succ, List.set_cons_zero])
        apply seq_op (V := .int .i64 a1.op) rfl
        · intro Φ hΦ; refine L_1 0 _ _ rfl (Try.isAgg3 _) rfl H rfl rfl ?_; exact hΦ
        (try simp only [Act.put, List.setIfInBounds_toArray, List.set_cons_succ, List.set_cons_zero])
        apply seq_op (V := .int .i64 (IntKind.i64.wrap (a1.op + 1))) rfl
        · intro Φ hΦ; refine O_bin rfl rfl rfl eqg_int r_add ?_; exact hΦ
        (try simp only [Act.put, List.setIfInBounds_toArray, List.set_cons_succ, List.set_cons_zero])
        apply seq_op (V := .slice Aq1 u3.length cq1) rfl
        · intro Φ hΦ; refine O_slI kOp_at rfl rfl rfl hiq1 hkq1 hAq1 hnq1 hcq1 ?_; exact hΦ
        (try simp only [Act.put, List.setIfInBounds_toArray, List.set_cons_succ, List.set_cons_zero])
        apply seq_op (V := .int .i64 (u3.length : Int)) rfl
        · intro Φ hΦ; refine O_len rfl Try.underlying28 rfl ?_; exact hΦ
        (try simp only [Act.put, List.setIfInBounds_toArray, List.set_cons_succ, List.set_cons_zero])
        apply seq_op (V := .int .i64 0) rfl
        · intro Φ hΦ; refine O_mv rfl rfl ?_; exact hΦ
        (try simp only [Act.put, List.setIfInBounds_toArray, List.set_cons_succ, List.set_cons_zero])
        refine list_end ?_
        refine then_norm ?_
        refine wp_block ?_
        obtain ⟨R7, hq7, hm⟩ := bs hm
        have hn7 := Nat.le_trans (len_le (d := kOp) hsq1 (by decide)) (by decide : (140737488355328 : Nat) ≤ 9223372036854775807)
        refine wp_loopF [none, none, none, none, some 4, none, none, some 7, none, none, none, none, none, none, none, none, none, none, none, none, none, none, none, none, none, none, none, none, none, none, none, none, none, none, none, none, none, none, none, none, none, none, none, none, none, none, none, none, none, none, none, none, none, none, some 54, some 55, some 56, some 57, some 58, some 59, some 60, some 61, some 62, some 63, some 64, some 65, some 66, some 67, some 68, some 69, some 70, some 71] rfl (by simp) (fun f w => ∃ (k7 : Nat) (r7 : List Op'), u3.drop k7 = r7 ∧ f 54 = .int .i64 (k7 : Int) ∧ assayerref04_Final_l7 u1 a1 k7 r7 = some R7 ∧ Holds E s (pt b3 (.cells #[.int .i64 a1.txn, .int .i64 a1.op] 41 (0, 0)) :: L) w) (fun f w => u3.length - (intOf (f 54)).toNat) ?_ ?_
        · exact ⟨0, u3, rfl, rfl, hq7, H⟩
        · clear H
          intro f w hI
          obtain ⟨k7, r7, hd7, hf54, hq7', H⟩ := hI
          clear hq7; have hq7 := hq7'; clear hq7'
          simp only [ovm, mixM]
          simp only [hf54]; clear hf54
          refine wp_seq ?_
          refine wp_region_lit ?_
          apply seq_op (V := .bool (decide ((k7 : Int) < (u3.length : Int)))) rfl
          · intro Φ hΦ; refine O_bin rfl rfl rfl eqg_int r_lss ?_; exact hΦ
          (try simp only [Act.put, List.setIfInBounds_toArray, List.set_cons_succ, List.set_cons_zero])
          refine list_end ?_
          refine then_norm ?_
          refine wp_seq ?_
          refine wp_cond_split rfl (fun hc => ?_) (fun hc => ?_)
          · have hc3 := hc
            clear hc
            obtain ⟨x7, r7', rfl, hd7', hd7'', hl7⟩ := rng_t hd7 hc3
            rw [assayerref04_Final_l7] at hq7
            refine wp_skip ?_
            refine then_norm ?_
            refine wp_seq ?_
            refine wp_block ?_
            refine wp_seq ?_
            obtain ⟨be3, oe3, A3e3, c3e3, rfl, hCe3, h0e3, h1e3, h2e3, h3e3⟩ := kOp_el hsq1 hd7'
            refine wp_region_lit ?_
            apply seq_op (V := .pointer (some ⟨be3, oe3 + k7 * 6, none⟩)) rfl
            · intro Φ hΦ; refine O_ix rfl Try.underlying28 (Try.sizeOf35 _) rfl rfl rfl hl7 ?_; exact hΦ
            (try simp only [Act.put, List.setIfInBounds_toArray, List.set_cons_succ, List.set_cons_zero])
            apply seq_op (V := .agg #[.int .i64 x7.kind, .string x7.key, .int .i64 x7.value, .slice A3e3 x7.list.length c3e3, .bool x7.has, .bool x7.isNil]) rfl
            · intro Φ hΦ; refine G_sN _ _ rfl (Try.isAgg35 _) rfl H hCe3 (Try.sizeOf35 _) ?_; exact hΦ
            (try simp only [Act.put, List.setIfInBounds_toArray, List.set_cons_succ, List.set_cons_zero])
            refine OpG.list rfl ?_; refine G_alloc 35 rfl (Try.zeroValue35 _) H ?_; clear H; intro b7 w1 H; (try simp only [Value.cells] at H)
            (try simp only [Act.put, List.setIfInBounds_toArray, List.set_cons_succ, List.set_cons_zero])
            refine OpG.list rfl ?_; refine G_setNi 0 (c := [.int .i64 x7.kind, .string x7.key, .int .i64 x7.value, .slice A3e3 x7.list.length c3e3, .bool x7.has, .bool x7.isNil]) _ _ _ rfl (Try.sizeOf35 _) rfl rfl (by simp [Value.oneCell']) H rfl rfl ?_; clear H; intro w1 H; simp only [List.set_cons_succ, List.set_cons_zero] at H
            (try simp only [Act.put, List.setIfInBounds_toArray, List.set_cons_succ, List.set_cons_zero])
            refine list_end ?_
            refine then_norm ?_
            refine wp_seq ?_
            rcases Bool.eq_false_or_eq_true (assayerref04_write_f x7) with hg2 | hg2
            · replace hq7 := ifT hg2 hq7
              obtain ⟨u4, gx4, hq7⟩ := bs hq7
              obtain ⟨kk3, gk3, gl3, gd3⟩ := rdI_some gx4
              obtain ⟨A3e4, c3e4, hCe4, h0e4, h1e4, h2e4, h3e4⟩ := kOp_el2 h4e1 gd3
              refine wp_draw_obO (k := 13) (sz := 72) (List.replicate 13 13) (fun _ => []) mixed (by simp) rfl (by kernel_rfl) (by kernel_rfl) (by kernel_rfl) H (by simp only [List.take_succ_cons, List.take_zero]; exact rfl) (by simp only [List.drop_succ_cons, List.drop_zero]; exact rfl)
                (fun y => by simp only [ov, Act.put, List.setIfInBounds_toArray, List.set_cons_succ, List.set_cons_zero, Nat.zero_add, Nat.reduceAdd]; exact rfl) ?_
              apply ObO.valw (V := .agg #[.int .i64 x7.kind, .string x7.key, .int .i64 x7.value, .slice A3e3 x7.list.length c3e3, .bool x7.has, .bool x7.isNil])
              · intro x; rfl
              · intro s' w' y Φ R hs H hG hΦ; refine wantG rfl ?_; refine G_pNi 0 _ _ rfl (Try.isAgg35 _) rfl H rfl (Try.sizeOf35 _) ?_; exact hΦ _ _ (Sub.refl _) H
              apply ObO.valw (V := .bool (assayerref04_write_f x7))
              · intro x; rfl
              · intro s' w' y Φ R hs H hG hΦ; simp only [List.nil_append, List.cons_append] at hG; have e0 : y 0 = _ := dh_get hG 0 rfl (by kernel_rfl); simp only [e0]; refine wantG rfl ?_; refine O_call1 rfl Try.func62 rfl rfl rfl ?_; refine (assayerref04_write_w (a0 := x7) (h_p0_list := (h3e3.mono hs)) (H := H)).mono ?_; rintro e w2 ⟨rfl, H⟩; exact ⟨_, rfl, hΦ _ _ (Sub.refl _) H⟩
              apply ObO.valw (V := .bool (assayerref04_write_f x7))
              · intro x; rfl
              · intro s' w' y Φ R hs H hG hΦ; simp only [List.nil_append, List.cons_append] at hG; have e1 : y 1 = _ := dh_get hG 1 rfl (by kernel_rfl); simp only [e1]; refine wantG rfl ?_; refine O_mv rfl rfl ?_; exact hΦ _ _ (Sub.refl _) H
              apply ObO.valw (V := .pointer (some ⟨b7, 1, none⟩))
              · intro x; rfl
              · intro s' w' y Φ R hs H hG hΦ; simp only [List.nil_append, List.cons_append] at hG; have eg : y 2 = _ := dh_get hG 2 rfl (by kernel_rfl); simp only [eg]; refine wantK ((wanted_t rfl rfl rfl).trans hg2) ?_; refine O_fld rfl Try.underlying35 rfl (Try.sizeOf9 _) rfl ?_; exact hΦ _ _ (Sub.refl _) H
              apply ObO.valw (V := .string x7.key)
              · intro x; rfl
              · intro s' w' y Φ R hs H hG hΦ; simp only [List.nil_append, List.cons_append] at hG; have e3 : y 3 = _ := dh_get hG 3 rfl (by kernel_rfl); have eg : y 2 = _ := dh_get hG 2 rfl (by kernel_rfl); simp only [eg, e3]; refine wantK ((wanted_t rfl rfl rfl).trans hg2) ?_; refine L_1 0 _ _ rfl (Try.isAgg9 _) rfl H rfl rfl ?_; exact hΦ _ _ (Sub.refl _) H
              apply ObO.valw (V := .slice (some ⟨be2, oe2, none⟩) u1.ops.length c4e1)
              · intro x; rfl
              · intro s' w' y Φ R hs H hG hΦ; simp only [List.nil_append, List.cons_append] at hG; have eg : y 2 = _ := dh_get hG 2 rfl (by kernel_rfl); simp only [eg]; refine wantK ((wanted_t rfl rfl rfl).trans hg2) ?_; refine O_mv rfl rfl ?_; exact hΦ _ _ (Sub.refl _) H
              apply ObO.valw (V := .pointer (some ⟨b3, 1, none⟩))
              · intro x; rfl
              · intro s' w' y Φ R hs H hG hΦ; simp only [List.nil_append, List.cons_append] at hG; have eg : y 2 = _ := dh_get hG 2 rfl (by kernel_rfl); simp only [eg]; refine wantK ((wanted_t rfl rfl rfl).trans hg2) ?_; refine O_fld rfl Try.underlying41 rfl (Try.sizeOf3 _) rfl ?_; exact hΦ _ _ (Sub.refl _) H
              apply ObO.valw (V := .int .i64 a1.op)
              · intro x; rfl
              · intro s' w' y Φ R hs H hG hΦ; simp only [List.nil_append, List.cons_append] at hG; have e6 : y 6 = _ := dh_get hG 6 rfl (by kernel_rfl); have eg : y 2 = _ := dh_get hG 2 rfl (by kernel_rfl); simp only [eg, e6]; refine wantK ((wanted_t rfl rfl rfl).trans hg2) ?_; refine L_1 1 _ _ rfl (Try.isAgg3 _) rfl H rfl rfl ?_; exact hΦ _ _ (Sub.refl _) H
              apply ObO.valw (V := .pointer (some ⟨be2, oe2 + kk3 * 6, none⟩))
              · intro x; rfl
              · intro s' w' y Φ R hs H hG hΦ; simp only [List.nil_append, List.cons_append] at hG; have e5 : y 5 = _ := dh_get hG 5 rfl (by kernel_rfl); have e7 : y 7 = _ := dh_get hG 7 rfl (by kernel_rfl); have eg : y 2 = _ := dh_get hG 2 rfl (by kernel_rfl); simp only [eg, e5, e7]; refine wantK ((wanted_t rfl rfl rfl).trans hg2) ?_; refine O_ix rfl Try.underlying28 (Try.sizeOf35 _) rfl rfl gk3 gl3 ?_; exact hΦ _ _ (Sub.refl _) H
              apply ObO.valw (V := .pointer (some ⟨be2, oe2 + kk3 * 6 + 1, none⟩))
              · intro x; rfl
              · intro s' w' y Φ R hs H hG hΦ; simp only [List.nil_append, List.cons_append] at hG; have e8 : y 8 = _ := dh_get hG 8 rfl (by kernel_rfl); have eg : y 2 = _ := dh_get hG 2 rfl (by kernel_rfl); simp only [eg, e8]; refine wantK ((wanted_t rfl rfl rfl).trans hg2) ?_; refine O_fld rfl Try.underlying35 rfl (Try.sizeOf9 _) rfl ?_; exact hΦ _ _ (Sub.refl _) H
              apply ObO.valw (V := .string u4.key)
              · intro x; rfl
              · intro s' w' y Φ R hs H hG hΦ; simp only [List.nil_append, List.cons_append] at hG; have e9 : y 9 = _ := dh_get hG 9 rfl (by kernel_rfl); have eg : y 2 = _ := dh_get hG 2 rfl (by kernel_rfl); simp only [eg, e9]; refine wantK ((wanted_t rfl rfl rfl).trans hg2) ?_; refine G_s1 _ _ rfl (Try.isAgg9 _) rfl H (hCe4.mono hs) 1 rfl rfl ?_; exact hΦ _ _ (Sub.refl _) H
              apply ObO.valw (V := .bool (x7.key.toList == u4.key.toList))
              · intro x; rfl
              · intro s' w' y Φ R hs H hG hΦ; simp only [List.nil_append, List.cons_append] at hG; have e4 : y 4 = _ := dh_get hG 4 rfl (by kernel_rfl); have e10 : y 10 = _ := dh_get hG 10 rfl (by kernel_rfl); have eg : y 2 = _ := dh_get hG 2 rfl (by kernel_rfl); simp only [eg, e4, e10]; refine wantK ((wanted_t rfl rfl rfl).trans hg2) ?_; refine O_bin rfl rfl rfl eqg_str r_seq ?_; exact hΦ _ _ (Sub.refl _) H
              apply ObO.valw (V := .bool (x7.key.toList == u4.key.toList))
              · intro x; rfl
              · intro s' w' y Φ R hs H hG hΦ; simp only [List.nil_append, List.cons_append] at hG; have e2 : y 2 = _ := dh_get hG 2 rfl (by kernel_rfl); have e11 : y 11 = _ := dh_get hG 11 rfl (by kernel_rfl); simp only [e2, e11]; refine wantG rfl ?_; refine O_pickT rfl rfl hg2 rfl ?_; exact hΦ _ _ (Sub.refl _) H
              clear H
              intro s3 w3 yy hs3 H hG
              replace H := (show Holds _ _ ([] ++ _) _ from H); rw [List.nil_append] at H
              simp only [List.nil_append, List.cons_append] at hG
              have e0 : yy 0 = _ := gh_get hG 0 rfl
              have e1 : yy 1 = _ := gh_get hG 1 rfl
              have e2 : yy 2 = _ := gh_get hG 2 rfl
              have e3 : yy 3 = _ := gh_get hG 3 rfl
              have e4 : yy 4 = _ := gh_get hG 4 rfl
              have e5 : yy 5 = _ := gh_get hG 5 rfl
              have e6 : yy 6 = _ := gh_get hG 6 rfl
              have e7 : yy 7 = _ := gh_get hG 7 rfl
              have e8 : yy 8 = _ := gh_get hG 8 rfl
              have e9 : yy 9 = _ := gh_get hG 9 rfl
              have e10 : yy 10 = _ := gh_get hG 10 rfl
              have e11 : yy 11 = _ := gh_get hG 11 rfl
              have e12 : yy 12 = _ := gh_get hG 12 rfl
              simp only [e0, e1, e2, e3, e4, e5, e6, e7, e8, e9, e10, e11, e12]
              clear hG e0 e1 e2 e3 e4 e5 e6 e7 e8 e9 e10 e11 e12
              replace H := H.forget hs3; clear hs3
              refine list_end ?_
              refine then_norm ?_
              refine wp_cond_split rfl (fun hc => ?_) (fun hc => ?_)
              · have hc4 := hc
                clear hc
                replace hq7 := ifT hc4 hq7
                refine wp_seq ?_
                refine wp_region_lit ?_
                apply seq_op (V := .bool false) rfl
                · intro Φ hΦ; refine O_as rfl rfl ?_; exact hΦ
                (try simp only [Act.put, List.setIfInBounds_toArray, List.set_cons_succ, List.set_cons_zero])
                refine list_end ?_
                refine then_norm ?_
                refine wp_ret ?_
                refine block_ret ?_
                refine then_ret ?_
                refine then_ret ?_
                refine block_ret ?_
                refine then_ret ?_
                have hq7 := Option.some.inj hq7
                subst hq7
                (try dsimp only at hm)
                have hm := Option.some.inj hm
                subst hm
                replace H := H.dropAt 1 rfl; simp only [List.eraseIdx_cons_succ, List.eraseIdx_cons_zero] at H
                replace H := H.dropAt 0 rfl; simp only [List.eraseIdx_cons_succ, List.eraseIdx_cons_zero] at H
                exact ret1 rfl (rv_tmp rfl) rfl ⟨rfl, H⟩
              · have hc4 := hc
                clear hc
                replace hq7 := ifF hc4 hq7
                refine wp_skip ?_
                refine block_norm ?_
                refine then_norm ?_
                refine wp_region_lit ?_
                apply seq_op (V := .int .i64 (IntKind.i64.wrap ((k7 : Int) + 1))) rfl
                · intro Φ hΦ; refine O_bin rfl rfl rfl eqg_int r_add ?_; exact hΦ
                (try simp only [Act.put, List.setIfInBounds_toArray, List.set_cons_succ, List.set_cons_zero])
                apply seq_op (V := .int .i64 (IntKind.i64.wrap ((k7 : Int) + 1))) rfl
                · intro Φ hΦ; refine O_mv rfl rfl ?_; exact hΦ
                (try simp only [Act.put, List.setIfInBounds_toArray, List.set_cons_succ, List.set_cons_zero])
                refine list_end ?_
                refine then_norm ?_
                replace H := H.drop
                refine ⟨⟨⟨rfl, rfl, rfl, rfl, rfl, rfl, rfl, rfl, rfl, rfl, rfl, rfl, rfl, rfl, rfl, rfl, rfl, rfl, rfl, rfl, rfl, rfl, rfl, rfl, rfl, rfl, rfl, rfl, rfl, rfl, rfl, rfl, rfl, rfl, rfl, rfl, rfl, rfl, rfl, rfl, rfl, rfl, rfl, rfl, rfl, rfl, rfl, rfl, rfl, rfl, rfl, rfl, rfl⟩, rfl⟩, ⟨k7 + 1, _, hd7'', wrap_succ hl7 hn7, hq7, H⟩, ?_⟩
                exact meas_succ hl7 hn7
            · replace hq7 := ifF hg2 hq7
              refine wp_draw_obO (k := 13) (sz := 72) (List.replicate 13 13) (fun _ => []) mixed (by simp) rfl (by kernel_rfl) (by kernel_rfl) (by kernel_rfl) H (by simp only [List.take_succ_cons, List.take_zero]; exact rfl) (by simp only [List.drop_succ_cons, List.drop_zero]; exact rfl)
                (fun y => by simp only [ov, Act.put, List.setIfInBounds_toArray, List.set_cons_succ, List.set_cons_zero, Nat.zero_add, Nat.reduceAdd]; exact rfl) ?_
              apply ObO.valw (V := .agg #[.int .i64 x7.kind, .string x7.key, .int .i64 x7.value, .slice A3e3 x7.list.length c3e3, .bool x7.has, .bool x7.isNil])
              · intro x; rfl
              · intro s' w' y Φ R hs H hG hΦ; refine wantG rfl ?_; refine G_pNi 0 _ _ rfl (Try.isAgg35 _) rfl H rfl (Try.sizeOf35 _) ?_; exact hΦ _ _ (Sub.refl _) H
              apply ObO.valw (V := .bool (assayerref04_write_f x7))
              · intro x; rfl
              · intro s' w' y Φ R hs H hG hΦ; simp only [List.nil_append, List.cons_append] at hG; have e0 : y 0 = _ := dh_get hG 0 rfl (by kernel_rfl); simp only [e0]; refine wantG rfl ?_; refine O_call1 rfl Try.func62 rfl rfl rfl ?_; refine (assayerref04_write_w (a0 := x7) (h_p0_list := (h3e3.mono hs)) (H := H)).mono ?_; rintro e w2 ⟨rfl, H⟩; exact ⟨_, rfl, hΦ _ _ (Sub.refl _) H⟩
              apply ObO.valw (V := .bool (assayerref04_write_f x7))
              · intro x; rfl
              · intro s' w' y Φ R hs H hG hΦ; simp only [List.nil_append, List.cons_append] at hG; have e1 : y 1 = _ := dh_get hG 1 rfl (by kernel_rfl); simp only [e1]; refine wantG rfl ?_; refine O_mv rfl rfl ?_; exact hΦ _ _ (Sub.refl _) H
              apply ObO.valw (V := undef)
              · intro x; rfl
              · intro s' w' y Φ R hs H hG hΦ; simp only [List.nil_append, List.cons_append] at hG; have eg : y 2 = _ := dh_get hG 2 rfl (by kernel_rfl); simp only [eg]; refine wantU ((wanted_t rfl rfl rfl).trans hg2) ?_; exact hΦ _ _ (Sub.refl _) H
              apply ObO.valw (V := undef)
              · intro x; rfl
              · intro s' w' y Φ R hs H hG hΦ; simp only [List.nil_append, List.cons_append] at hG; have e3 : y 3 = _ := dh_get hG 3 rfl (by kernel_rfl); have eg : y 2 = _ := dh_get hG 2 rfl (by kernel_rfl); simp only [eg, e3]; refine wantU ((wanted_t rfl rfl rfl).trans hg2) ?_; exact hΦ _ _ (Sub.refl _) H
              apply ObO.valw (V := undef)
              · intro x; rfl
              · intro s' w' y Φ R hs H hG hΦ; simp only [List.nil_append, List.cons_append] at hG; have eg : y 2 = _ := dh_get hG 2 rfl (by kernel_rfl); simp only [eg]; refine wantU ((wanted_t rfl rfl rfl).trans hg2) ?_; exact hΦ _ _ (Sub.refl _) H
              apply ObO.valw (V := undef)
              · intro x; rfl
              · intro s' w' y Φ R hs H hG hΦ; simp only [List.nil_append, List.cons_append] at hG; have eg : y 2 = _ := dh_get hG 2 rfl (by kernel_rfl); simp only [eg]; refine wantU ((wanted_t rfl rfl rfl).trans hg2) ?_; exact hΦ _ _ (Sub.refl _) H
              apply ObO.valw (V := undef)
              · intro x; rfl
              · intro s' w' y Φ R hs H hG hΦ; simp only [List.nil_append, List.cons_append] at hG; have e6 : y 6 = _ := dh_get hG 6 rfl (by kernel_rfl); have eg : y 2 = _ := dh_get hG 2 rfl (by kernel_rfl); simp only [eg, e6]; refine wantU ((wanted_t rfl rfl rfl).trans hg2) ?_; exact hΦ _ _ (Sub.refl _) H
              apply ObO.valw (V := undef)
              · intro x; rfl
              · intro s' w' y Φ R hs H hG hΦ; simp only [List.nil_append, List.cons_append] at hG; have e5 : y 5 = _ := dh_get hG 5 rfl (by kernel_rfl); have e7 : y 7 = _ := dh_get hG 7 rfl (by kernel_rfl); have eg : y 2 = _ := dh_get hG 2 rfl (by kernel_rfl); simp only [eg, e5, e7]; refine wantU ((wanted_t rfl rfl rfl).trans hg2) ?_; exact hΦ _ _ (Sub.refl _) H
              apply ObO.valw (V := undef)
              · intro x; rfl
              · intro s' w' y Φ R hs H hG hΦ; simp only [List.nil_append, List.cons_append] at hG; have e8 : y 8 = _ := dh_get hG 8 rfl (by kernel_rfl); have eg : y 2 = _ := dh_get hG 2 rfl (by kernel_rfl); simp only [eg, e8]; refine wantU ((wanted_t rfl rfl rfl).trans hg2) ?_; exact hΦ _ _ (Sub.refl _) H
              apply ObO.valw (V := undef)
              · intro x; rfl
              · intro s' w' y Φ R hs H hG hΦ; simp only [List.nil_append, List.cons_append] at hG; have e9 : y 9 = _ := dh_get hG 9 rfl (by kernel_rfl); have eg : y 2 = _ := dh_get hG 2 rfl (by kernel_rfl); simp only [eg, e9]; refine wantU ((wanted_t rfl rfl rfl).trans hg2) ?_; exact hΦ _ _ (Sub.refl _) H
              apply ObO.valw (V := undef)
              · intro x; rfl
              · intro s' w' y Φ R hs H hG hΦ; simp only [List.nil_append, List.cons_append] at hG; have e4 : y 4 = _ := dh_get hG 4 rfl (by kernel_rfl); have e10 : y 10 = _ := dh_get hG 10 rfl (by kernel_rfl); have eg : y 2 = _ := dh_get hG 2 rfl (by kernel_rfl); simp only [eg, e4, e10]; refine wantU ((wanted_t rfl rfl rfl).trans hg2) ?_; exact hΦ _ _ (Sub.refl _) H
              apply ObO.valw (V := .bool false)
              · intro x; rfl
              · intro s' w' y Φ R hs H hG hΦ; simp only [List.nil_append, List.cons_append] at hG; have e2 : y 2 = _ := dh_get hG 2 rfl (by kernel_rfl); have e11 : y 11 = _ := dh_get hG 11 rfl (by kernel_rfl); simp only [e2, e11]; refine wantG rfl ?_; refine O_pickF rfl rfl hg2 rfl ?_; exact hΦ _ _ (Sub.refl _) H
              clear H
              intro s3 w3 yy hs3 H hG
              replace H := (show Holds _ _ ([] ++ _) _ from H); rw [List.nil_append] at H
              simp only [List.nil_append, List.cons_append] at hG
              have e0 : yy 0 = _ := gh_get hG 0 rfl
              have e1 : yy 1 = _ := gh_get hG 1 rfl
              have e2 : yy 2 = _ := gh_get hG 2 rfl
              have e3 : yy 3 = _ := gh_get hG 3 rfl
              have e4 : yy 4 = _ := gh_get hG 4 rfl
              have e5 : yy 5 = _ := gh_get hG 5 rfl
              have e6 : yy 6 = _ := gh_get hG 6 rfl
              have e7 : yy 7 = _ := gh_get hG 7 rfl
              have e8 : yy 8 = _ := gh_get hG 8 rfl
              have e9 : yy 9 = _ := gh_get hG 9 rfl
              have e10 : yy 10 = _ := gh_get hG 10 rfl
              have e11 : yy 11 = _ := gh_get hG 11 rfl
              have e12 : yy 12 = _ := gh_get hG 12 rfl
              simp only [e0, e1, e2, e3, e4, e5, e6, e7, e8, e9, e10, e11, e12]
              clear hG e0 e1 e2 e3 e4 e5 e6 e7 e8 e9 e10 e11 e12
              replace H := H.forget hs3; clear hs3
              refine list_end ?_
              refine then_norm ?_
              refine wp_cond_false rfl ?_
              refine wp_skip ?_
              refine block_norm ?_
              refine then_norm ?_
              refine wp_region_lit ?_
              apply seq_op (V := .int .i64 (IntKind.i64.wrap ((k7 : Int) + 1))) rfl
              · intro Φ hΦ; refine O_bin rfl rfl rfl eqg_int r_add ?_; exact hΦ
              (try simp only [Act.put, List.setIfInBounds_toArray, List.set_cons_succ, List.set_cons_zero])
              apply seq_op (V := .int .i64 (IntKind.i64.wrap ((k7 : Int) + 1))) rfl
              · intro Φ hΦ; refine O_mv rfl rfl ?_; exact hΦ
              (try simp only [Act.put, List.setIfInBounds_toArray, List.set_cons_succ, List.set_cons_zero])
              refine list_end ?_
              refine then_norm ?_
              replace H := H.drop
              refine ⟨⟨⟨rfl, rfl, rfl, rfl, rfl, rfl, rfl, rfl, rfl, rfl, rfl, rfl, rfl, rfl, rfl, rfl, rfl, rfl, rfl, rfl, rfl, rfl, rfl, rfl, rfl, rfl, rfl, rfl, rfl, rfl, rfl, rfl, rfl, rfl, rfl, rfl, rfl, rfl, rfl, rfl, rfl, rfl, rfl, rfl, rfl, rfl, rfl, rfl, rfl, rfl, rfl, rfl, rfl⟩, rfl⟩, ⟨k7 + 1, _, hd7'', wrap_succ hl7 hn7, hq7, H⟩, ?_⟩
              exact meas_succ hl7 hn7
          · have hc3 := hc
            clear hc
            obtain rfl := rng_f hd7 hc3
            rw [assayerref04_Final_l7] at hq7
            refine wp_exit ?_
            refine then_exit ?_
            refine then_exit ?_
            have hq7 := Option.some.inj hq7
            subst hq7
            (try dsimp only at hm)
            refine block_exit ?_
            refine then_norm ?_
            refine wp_seq ?_
            refine wp_region_lit ?_
            apply seq_op (V := .bool true) rfl
            · intro Φ hΦ; refine O_as rfl rfl ?_; exact hΦ
            (try simp only [Act.put, List.setIfInBounds_toArray, List.set_cons_succ, List.set_cons_zero])
            refine list_end ?_
            refine then_norm ?_
            refine wp_ret ?_
            have hm := Option.some.inj hm
            subst hm
            replace H := H.dropAt 0 rfl; simp only [List.eraseIdx_cons_succ, List.eraseIdx_cons_zero] at H
            exact ret1 rfl (rv_tmp rfl) rfl ⟨rfl, H⟩
def assayerlaw04_TableFinals_l8 (u1 : Tbl) (k4 : Nat) (a0 : List Txn) : Nat → List Op' → (ByteArray → Option Int) → Option ((Bool ⊕ ((ByteArray → Option Int))))
  | k8, [] , y8_p0 => some (.inr y8_p0)
  | k8, x8 :: r8, y8_p0 => (table_Table_Final_f u1 (⟨(k4 : Int), (k8 : Int)⟩ : Wr)).bind fun u2 => (assayerref04_Final_f (small a0) (⟨(k4 : Int), (k8 : Int)⟩ : Wr)).bind fun u3 => if (!(u2 == u3)) = true then (some (.inl false)) else (if ((x8.kind != 1) && (x8.kind != 3)) = true then (assayerlaw04_TableFinals_l8 u1 k4 a0 (k8 + 1) r8 y8_p0) else (if u2 = true then (assayerlaw04_TableFinals_l8 u1 k4 a0 (k8 + 1) r8 (fset y8_p0 x8.key (IntKind.i64.wrap (((y8_p0 x8.key).getD 0) + 1)))) else (assayerlaw04_TableFinals_l8 u1 k4 a0 (k8 + 1) r8 (fset y8_p0 x8.key (IntKind.i64.wrap (((y8_p0 x8.key).getD 0) + 0))))))

open Classical in
noncomputable def assayerlaw04_TableFinals_l4 (u1 : Tbl) (a0 : List Txn) : Nat → List Txn → Option ((Bool ⊕ Unit))
  | k4, []  => some (.inr ())
  | k4, x4 :: r4 => (assayerlaw04_TableFinals_l8 u1 k4 a0 0 x4.ops fnil).bind fun | .inl z8_r => (some (.inl z8_r)) | .inr z8_p0 => (if (∃ (k0 : ByteArray) (x0 : Int), z8_p0 k0 = some x0 ∧ ((x0 != 1)) = true) then (some (.inl false)) else (assayerlaw04_TableFinals_l4 u1 a0 (k4 + 1) r4))

noncomputable def assayerlaw04_TableFinals_f (a0 : List Txn) (a1 : Int) (a2 : Int) : Option Bool := (table_New_f (small a0)).bind fun u1 => (assayerlaw04_TableFinals_l4 u1 a0 0 (small a0)).bind fun | .inl z4_r => (some z4_r) | .inr () => ((table_Table_Final_f u1 (⟨a1, a2⟩ : Wr)).bind fun u4 => (assayerref04_Final_f (small a0) (⟨a1, a2⟩ : Wr)).bind fun u5 => some (u4 == u5))

set_option maxHeartbeats 4000000 in
theorem assayerlaw04_TableFinals_w {E : World} {s : SH} {L : List HP} {w : World} {a0 : List Txn} {a1 : Int} {a2 : Int} {A_p0 : Option Addr} {c_p0 : Nat} (h_p0 : kT.Sl s (.slice A_p0 a0.length c_p0) a0) {R : Bool} (hm : assayerlaw04_TableFinals_f a0 a1 a2 = some R) (H : Holds E s (L) w) :
    Calls Try.prog 4 #[.slice A_p0 a0.length c_p0, .int .i64 a1, .int .i64 a2] w fun e w' => e = .returned (.bool R) ∧ Holds E s (L) w' := by
  unfold assayerlaw04_TableFinals_f at hm
  go_enter Try.func4, Try.ntmps4
  refine wp_seq ?_
  refine wp_region_lit ?_
  apply seq_op (V := .bool false) rfl
  · intro Φ hΦ; refine O_as rfl rfl ?_; exact hΦ
  (try simp only [Act.put, List.setIfInBounds_toArray, List.set_cons_succ, List.set_cons_zero])
  refine list_end ?_
  refine then_norm ?_
  refine wp_seq ?_
  refine wp_region_lit ?_
  apply seq_op (V := .slice A_p0 a0.length c_p0) rfl
  · intro Φ hΦ; refine O_mv rfl rfl ?_; exact hΦ
  (try simp only [Act.put, List.setIfInBounds_toArray, List.set_cons_succ, List.set_cons_zero])
  refine seq_call rfl (fun Φ hΦ => by refine O_call1 rfl Try.func15 rfl rfl rfl hΦ) (Small_w' (a0 := a0) (h_p0 := h_p0) (H := H)) ?_
  clear H
  rintro e w1 ⟨Ar10, cr10, nr10, s1, rfl, hs', hr10, H⟩; refine ⟨_, rfl, ?_⟩
  obtain rfl := sl_n hr10
  replace h_p0 := h_p0.mono hs'
  have hS := hs'
  (try simp only [Act.put, List.setIfInBounds_toArray, List.set_cons_succ, List.set_cons_zero])
  apply seq_op (V := .slice Ar10 (small a0).length cr10) rfl
  · intro Φ hΦ; refine O_as rfl rfl ?_; exact hΦ
  (try simp only [Act.put, List.setIfInBounds_toArray, List.set_cons_succ, List.set_cons_zero])
  refine list_end ?_
  refine then_norm ?_
  refine wp_seq ?_
  obtain ⟨u1, gx1, hm⟩ := bs hm
  refine wp_region_lit ?_
  apply seq_op (V := .slice Ar10 (small a0).length cr10) rfl
  · intro Φ hΦ; refine O_mv rfl rfl ?_; exact hΦ
  (try simp only [Act.put, List.setIfInBounds_toArray, List.set_cons_succ, List.set_cons_zero])
  refine seq_call rfl (fun Φ hΦ => by refine O_call1 rfl Try.func16 rfl rfl rfl hΦ) (table_New_w (a0 := (small a0)) (h_p0 := hr10) (hm := gx1) (H := H)) ?_
  clear H
  rintro e w1 ⟨br20, Ar20_l, cr20_l, nr20_l, rr20_kinds, rr20_writers, s2, rfl, hs', H⟩; refine ⟨_, rfl, ?_⟩
  obtain rfl := osl_len 1 H rfl
  replace h_p0 := h_p0.mono hs'
  replace hr10 := hr10.mono hs'
  replace hS := hS.trans hs'
  (try simp only [Act.put, List.setIfInBounds_toArray, List.set_cons_succ, List.set_cons_zero])
  apply seq_op (V := .pointer (some ⟨br20, 0, none⟩)) rfl
  · intro Φ hΦ; refine O_as rfl rfl ?_; exact hΦ
  (try simp only [Act.put, List.setIfInBounds_toArray, List.set_cons_succ, List.set_cons_zero])
  refine list_end ?_
  refine then_norm ?_
  refine wp_seq ?_
  refine wp_seq ?_
  refine wp_region_lit ?_
  apply seq_op (V := .slice Ar10 (small a0).length cr10) rfl
  · intro Φ hΦ; refine O_mv rfl rfl ?_; exact hΦ
  (try simp only [Act.put, List.setIfInBounds_toArray, List.set_cons_succ, List.set_cons_zero])
  apply seq_op (V := .int .i64 ((small a0).length : Int)) rfl
  · intro Φ hΦ; refine O_len rfl Try.underlying22 rfl ?_; exact hΦ
  (try simp only [Act.put, List.setIfInBounds_toArray, List.set_cons_succ, List.set_cons_zero])
  apply seq_op (V := .int .i64 0) rfl
  · intro Φ hΦ; refine O_mv rfl rfl ?_; exact hΦ
  (try simp only [Act.put, List.setIfInBounds_toArray, List.set_cons_succ, List.set_cons_zero])
  refine list_end ?_
  refine then_norm ?_
  refine wp_block ?_
  obtain ⟨R4, hq4, hm⟩ := bs hm
  have hn4 := Nat.le_trans (len_le (d := kT) hr10 (by decide)) (by decide : (140737488355328 : Nat) ≤ 9223372036854775807)
  refine wp_loopF [none, none, none, none, none, none, some 6, none, some 8, some 9, some 10, some 11, some 12, some 13, none, some 15, none, none, none, none, none, none, none, some 23, some 24, some 25, some 26, some 27, some 28, some 29, some 30, some 31, some 32, some 33, some 34, some 35, some 36, some 37, some 38, some 39, some 40, some 41, some 42, some 43, some 44, some 45, some 46, some 47, some 48, some 49, some 50, some 51, some 52, some 53, some 54, some 55, some 56, some 57, some 58, some 59, some 60, some 61, some 62, some 63, some 64, some 65, some 66, some 67, some 68, some 69, some 70, some 71, some 72, some 73, some 74, some 75, some 76, some 77, none, none, none, none, none, none, none, none, none, none] rfl (by simp) (fun f w => ∃ (k4 : Nat) (r4 : List Txn), (small a0).drop k4 = r4 ∧ f 23 = .int .i64 (k4 : Int) ∧ assayerlaw04_TableFinals_l4 u1 a0 k4 r4 = some R4 ∧ Holds E s2 (pt br20 (.cells #[.slice Ar20_l u1.l.length cr20_l, .map (some rr20_kinds), .map (some rr20_writers), .bool u1.made] 98 (0, 0)) :: (kT.sh s2).Osl (.slice Ar20_l u1.l.length cr20_l) u1.l :: mpF kcS vcI rr20_kinds u1.kinds :: mpO kcP kWr s2 rr20_writers u1.writers :: L) w) (fun f w => (small a0).length - (intOf (f 23)).toNat) ?_ ?_
  · exact ⟨0, (small a0), rfl, rfl, hq4, H⟩
  · clear H
    intro f w hI
    obtain ⟨k4, r4, hd4, hf23, hq4', H⟩ := hI
    clear hq4; have hq4 := hq4'; clear hq4'
    simp only [ovm, mixM]
    simp only [hf23]; clear hf23
    refine wp_seq ?_
    refine wp_region_lit ?_
    apply seq_op (V := .bool (decide ((k4 : Int) < ((small a0).length : Int)))) rfl
    · intro Φ hΦ; refine O_bin rfl rfl rfl eqg_int r_lss ?_; exact hΦ
    (try simp only [Act.put, List.setIfInBounds_toArray, List.set_cons_succ, List.set_cons_zero])
    refine list_end ?_
    refine then_norm ?_
    refine wp_seq ?_
    refine wp_cond_split rfl (fun hc => ?_) (fun hc => ?_)
    · have hc1 := hc
      clear hc
      obtain ⟨x4, r4', rfl, hd4', hd4'', hl4⟩ := rng_t hd4 hc1
      rw [assayerlaw04_TableFinals_l4] at hq4
      refine wp_skip ?_
      refine then_norm ?_
      refine wp_seq ?_
      refine wp_block ?_
      refine wp_seq ?_
      obtain ⟨be1, oe1, A4e1, c4e1, rfl, hCe1, h0e1, h1e1, h2e1, h3e1, h4e1⟩ := kT_el hr10 hd4'
      refine wp_region_lit ?_
      apply seq_op (V := .int .i64 (k4 : Int)) rfl
      · intro Φ hΦ; refine O_mv rfl rfl ?_; exact hΦ
      (try simp only [Act.put, List.setIfInBounds_toArray, List.set_cons_succ, List.set_cons_zero])
      apply seq_op (V := .pointer (some ⟨be1, oe1 + k4 * 5, none⟩)) rfl
      · intro Φ hΦ; refine O_ix rfl Try.underlying22 (Try.sizeOf30 _) rfl rfl rfl hl4 ?_; exact hΦ
      (try simp only [Act.put, List.setIfInBounds_toArray, List.set_cons_succ, List.set_cons_zero])
      apply seq_op (V := .agg #[.int .i64 x4.proc, .int .i64 x4.state, .int .i64 x4.from_, .int .i64 x4.to, .slice A4e1 x4.ops.length c4e1]) rfl
      · intro Φ hΦ; refine G_sN _ _ rfl (Try.isAgg30 _) rfl H hCe1 (Try.sizeOf30 _) ?_; exact hΦ
      (try simp only [Act.put, List.setIfInBounds_toArray, List.set_cons_succ, List.set_cons_zero])
      refine OpG.list rfl ?_; refine G_alloc 30 rfl (Try.zeroValue30 _) H ?_; clear H; intro b9 w1 H; (try simp only [Value.cells] at H)
      (try simp only [Act.put, List.setIfInBounds_toArray, List.set_cons_succ, List.set_cons_zero])
      apply seq_op (V := .int .i64 (k4 : Int)) rfl
      · intro Φ hΦ; refine O_as rfl rfl ?_; exact hΦ
      (try simp only [Act.put, List.setIfInBounds_toArray, List.set_cons_succ, List.set_cons_zero])
      refine OpG.list rfl ?_; refine G_setNi 0 (c := [.int .i64 x4.proc, .int .i64 x4.state, .int .i64 x4.from_, .int .i64 x4.to, .slice A4e1 x4.ops.length c4e1]) _ _ _ rfl (Try.sizeOf30 _) rfl rfl (by simp [Value.oneCell']) H rfl rfl ?_; clear H; intro w1 H; simp only [List.set_cons_succ, List.set_cons_zero] at H
      (try simp only [Act.put, List.setIfInBounds_toArray, List.set_cons_succ, List.set_cons_zero])
      refine list_end ?_
      refine then_norm ?_
      refine wp_seq ?_
      refine wp_region_lit ?_
      refine OpG.list rfl ?_; refine F_make (K := kcS) (V := vcI) 39 rfl H ?_; clear H; intro r28 w1 H
      (try simp only [Act.put, List.setIfInBounds_toArray, List.set_cons_succ, List.set_cons_zero])
      apply seq_op (V := .map (some r28)) rfl
      · intro Φ hΦ; refine O_as rfl rfl ?_; exact hΦ
      (try simp only [Act.put, List.setIfInBounds_toArray, List.set_cons_succ, List.set_cons_zero])
      refine list_end ?_
      refine then_norm ?_
      refine wp_seq ?_
      refine wp_seq ?_
      refine wp_region_lit ?_
      apply seq_op (V := .pointer (some ⟨b9, 4, none⟩)) rfl
      · intro Φ hΦ; refine O_fld rfl Try.underlying30 rfl (Try.sizeOf28 _) rfl ?_; exact hΦ
      (try simp only [Act.put, List.setIfInBounds_toArray, List.set_cons_succ, List.set_cons_zero])
      apply seq_op (V := .slice A4e1 x4.ops.length c4e1) rfl
      · intro Φ hΦ; refine L_1 1 _ _ rfl (Try.isAgg28 _) rfl H rfl rfl ?_; exact hΦ
      (try simp only [Act.put, List.setIfInBounds_toArray, List.set_cons_succ, List.set_cons_zero])
      apply seq_op (V := .int .i64 (x4.ops.length : Int)) rfl
      · intro Φ hΦ; refine O_len rfl Try.underlying28 rfl ?_; exact hΦ
      (try simp only [Act.put, List.setIfInBounds_toArray, List.set_cons_succ, List.set_cons_zero])
      apply seq_op (V := .int .i64 0) rfl
      · intro Φ hΦ; refine O_mv rfl rfl ?_; exact hΦ
      (try simp only [Act.put, List.setIfInBounds_toArray, List.set_cons_succ, List.set_cons_zero])
      refine list_end ?_
      refine then_norm ?_
      refine wp_block ?_
      obtain ⟨R8, hq8, hq4⟩ := bs hq4
      have hn8 := Nat.le_trans (len_le (d := kOp) h4e1 (by decide)) (by decide : (140737488355328 : Nat) ≤ 9223372036854775807)
      refine wp_loopF [none, none, none, none, none, none, some 6, none, none, none, none, some 11, some 12, some 13, none, none, none, none, none, none, none, none, none, none, none, none, none, none, none, none, none, none, some 32, some 33, some 34, some 35, some 36, some 37, some 38, some 39, some 40, some 41, some 42, some 43, some 44, some 45, some 46, some 47, some 48, some 49, some 50, some 51, some 52, some 53, some 54, some 55, some 56, some 57, some 58, some 59, some 60, some 61, some 62, some 63, some 64, some 65, some 66, some 67, some 68, none, none, none, none, none, none, none, none, none, none, none, none, none, none, none, none, none, none, none] rfl (by simp) (fun f w => ∃ (k8 : Nat) (r8 : List Op') (y8_p0 : ByteArray → Option Int), x4.ops.drop k8 = r8 ∧ f 32 = .int .i64 (k8 : Int) ∧ assayerlaw04_TableFinals_l8 u1 k4 a0 k8 r8 y8_p0 = some R8 ∧ Holds E s2 (mpF kcS vcI r28 y8_p0 :: pt b9 (.cells #[.int .i64 x4.proc, .int .i64 x4.state, .int .i64 x4.from_, .int .i64 x4.to, .slice A4e1 x4.ops.length c4e1] 30 (0, 0)) :: pt br20 (.cells #[.slice Ar20_l u1.l.length cr20_l, .map (some rr20_kinds), .map (some rr20_writers), .bool u1.made] 98 (0, 0)) :: (kT.sh s2).Osl (.slice Ar20_l u1.l.length cr20_l) u1.l :: mpF kcS vcI rr20_kinds u1.kinds :: mpO kcP kWr s2 rr20_writers u1.writers :: L) w) (fun f w => x4.ops.length - (intOf (f 32)).toNat) ?_ ?_
      · exact ⟨0, x4.ops, fnil, rfl, rfl, hq8, H⟩
      · clear H
        intro f w hI
        obtain ⟨k8, r8, y8_p0, hd8, hf32, hq8', H⟩ := hI
        clear hq8; have hq8 := hq8'; clear hq8'
        simp only [ovm, mixM]
        simp only [hf32]; clear hf32
        refine wp_seq ?_
        refine wp_region_lit ?_
        apply seq_op (V := .bool (decide ((k8 : Int) < (x4.ops.length : Int)))) rfl
        · intro Φ hΦ; refine O_bin rfl rfl rfl eqg_int r_lss ?_; exact hΦ
        (try simp only [Act.put, List.setIfInBounds_toArray, List.set_cons_succ, List.set_cons_zero])
        refine list_end ?_
        refine then_norm ?_
        refine wp_seq ?_
        refine wp_cond_split rfl (fun hc => ?_) (fun hc => ?_)
        · have hc2 := hc
          clear hc
          obtain ⟨x8, r8', rfl, hd8', hd8'', hl8⟩ := rng_t hd8 hc2
          rw [assayerlaw04_TableFinals_l8] at hq8
          refine wp_skip ?_
          refine then_norm ?_
          refine wp_seq ?_
          refine wp_block ?_
          refine wp_seq ?_
          obtain ⟨be2, oe2, A3e2, c3e2, rfl, hCe2, h0e2, h1e2, h2e2, h3e2⟩ := kOp_el h4e1 hd8'
          refine wp_region_lit ?_
          apply seq_op (V := .int .i64 (k8 : Int)) rfl
          · intro Φ hΦ; refine O_mv rfl rfl ?_; exact hΦ
          (try simp only [Act.put, List.setIfInBounds_toArray, List.set_cons_succ, List.set_cons_zero])
          apply seq_op (V := .pointer (some ⟨be2, oe2 + k8 * 6, none⟩)) rfl
          · intro Φ hΦ; refine O_ix rfl Try.underlying28 (Try.sizeOf35 _) rfl rfl rfl hl8 ?_; exact hΦ
          (try simp only [Act.put, List.setIfInBounds_toArray, List.set_cons_succ, List.set_cons_zero])
          apply seq_op (V := .agg #[.int .i64 x8.kind, .string x8.key, .int .i64 x8.value, .slice A3e2 x8.list.length c3e2, .bool x8.has, .bool x8.isNil]) rfl
          · intro Φ hΦ; refine G_sN _ _ rfl (Try.isAgg35 _) rfl H hCe2 (Try.sizeOf35 _) ?_; exact hΦ
          (try simp only [Act.put, List.setIfInBounds_toArray, List.set_cons_succ, List.set_cons_zero])
          refine OpG.list rfl ?_; refine G_alloc 35 rfl (Try.zeroValue35 _) H ?_; clear H; intro b12 w1 H; (try simp only [Value.cells] at H)
          (try simp only [Act.put, List.setIfInBounds_toArray, List.set_cons_succ, List.set_cons_zero])
          apply seq_op (V := .int .i64 (k8 : Int)) rfl
          · intro Φ hΦ; refine O_as rfl rfl ?_; exact hΦ
          (try simp only [Act.put, List.setIfInBounds_toArray, List.set_cons_succ, List.set_cons_zero])
          refine OpG.list rfl ?_; refine G_setNi 0 (c := [.int .i64 x8.kind, .string x8.key, .int .i64 x8.value, .slice A3e2 x8.list.length c3e2, .bool x8.has, .bool x8.isNil]) _ _ _ rfl (Try.sizeOf35 _) rfl rfl (by simp [Value.oneCell']) H rfl rfl ?_; clear H; intro w1 H; simp only [List.set_cons_succ, List.set_cons_zero] at H
          (try simp only [Act.put, List.setIfInBounds_toArray, List.set_cons_succ, List.set_cons_zero])
          refine list_end ?_
          refine then_norm ?_
          refine wp_seq ?_
          refine wp_region_lit ?_
          apply seq_op (V := .int .i64 (k4 : Int)) rfl
          · intro Φ hΦ; refine O_mv rfl rfl ?_; exact hΦ
          (try simp only [Act.put, List.setIfInBounds_toArray, List.set_cons_succ, List.set_cons_zero])
          apply seq_op (V := .int .i64 (k8 : Int)) rfl
          · intro Φ hΦ; refine O_mv rfl rfl ?_; exact hΦ
          (try simp only [Act.put, List.setIfInBounds_toArray, List.set_cons_succ, List.set_cons_zero])
          apply seq_op (V := .agg #[.int .i64 (k4 : Int), .int .i64 (k8 : Int)]) rfl
          · intro Φ hΦ; refine O_bld (cs := [.int .i64 (k4 : Int), .int .i64 (k8 : Int)]) rfl (by kernel_rfl) ?_; exact hΦ
          (try simp only [Act.put, List.setIfInBounds_toArray, List.set_cons_succ, List.set_cons_zero])
          refine OpG.list rfl ?_; refine G_alloc 41 rfl (Try.zeroValue41 _) H ?_; clear H; intro b13 w1 H; (try simp only [Value.cells] at H)
          (try simp only [Act.put, List.setIfInBounds_toArray, List.set_cons_succ, List.set_cons_zero])
          refine OpG.list rfl ?_; refine G_setNi 0 (c := [.int .i64 (k4 : Int), .int .i64 (k8 : Int)]) _ _ _ rfl (Try.sizeOf41 _) rfl rfl (by simp [Value.oneCell']) H rfl rfl ?_; clear H; intro w1 H; simp only [List.set_cons_succ, List.set_cons_zero] at H
          (try simp only [Act.put, List.setIfInBounds_toArray, List.set_cons_succ, List.set_cons_zero])
          refine list_end ?_
          refine then_norm ?_
          refine wp_seq ?_
          refine wp_seq ?_
          obtain ⟨u2, gx2, hq8⟩ := bs hq8
          obtain ⟨u3, gx3, hq8⟩ := bs hq8
          refine wp_draw_obO (k := 7) (sz := 88) (List.replicate 7 7) (fun _ => []) mixed (by simp) rfl (by kernel_rfl) (by kernel_rfl) (by kernel_rfl) H (by simp only [List.take_succ_cons, List.take_zero]; exact rfl) (by simp only [List.drop_succ_cons, List.drop_zero]; exact rfl)
            (fun y => by simp only [ov, Act.put, List.setIfInBounds_toArray, List.set_cons_succ, List.set_cons_zero, Nat.zero_add, Nat.reduceAdd]; exact rfl) ?_
          apply ObO.valw (V := .pointer (some ⟨br20, 0, none⟩))
          · intro x; rfl
          · intro s' w' y Φ R hs H hG hΦ; refine wantG rfl ?_; refine O_mv rfl rfl ?_; exact hΦ _ _ (Sub.refl _) H
          apply ObO.valw (V := .agg #[.int .i64 (k4 : Int), .int .i64 (k8 : Int)])
          · intro x; rfl
          · intro s' w' y Φ R hs H hG hΦ; refine wantG rfl ?_; refine G_pNi 0 _ _ rfl (Try.isAgg41 _) rfl H rfl (Try.sizeOf41 _) ?_; exact hΦ _ _ (Sub.refl _) H
          apply ObO.valw (V := .bool u2)
          · intro x; rfl
          · intro s' w' y Φ R hs H hG hΦ; simp only [List.nil_append, List.cons_append] at hG; have e0 : y 0 = _ := dh_get hG 0 rfl (by kernel_rfl); have e1 : y 1 = _ := dh_get hG 1 rfl (by kernel_rfl); simp only [e0, e1]; refine wantG rfl ?_; refine O_call2 rfl Try.func23 rfl rfl rfl rfl ?_; obtain ⟨sl0, hsl0, hb0, H, bk0, bg0⟩ := lendAt 4 rfl H; simp only [List.eraseIdx_cons_succ, List.eraseIdx_cons_zero, List.cons_append] at H bk0; obtain ⟨sl1, hsl1, hb1, H, bk1, bg1⟩ := lendOsl 4 rfl (hs.trans hsl0) H; simp only [List.eraseIdx_cons_succ, List.eraseIdx_cons_zero, List.cons_append] at H bk1; obtain ⟨sl2, hsl2, hb2, H, bk2, bg2⟩ := lendMapF 4 rfl H; simp only [List.eraseIdx_cons_succ, List.eraseIdx_cons_zero, List.cons_append] at H bk2; obtain ⟨sl3, hsl3, hb3, H, bk3, bg3⟩ := lendMapO 4 rfl (((hs.trans hsl0).trans hsl1).trans hsl2) H; simp only [List.eraseIdx_cons_succ, List.eraseIdx_cons_zero, List.cons_append] at H bk3; refine (table_Table_Final_w (a0 := u1) (hC_p0 := ((Cells.ofB hb0).mono ((hsl1.trans hsl2).trans hsl3))) (h_p0_l := (hb1.mono (hsl2.trans hsl3))) (h_p0_kinds := (hb2.mono hsl3)) (h_p0_writers := hb3) (a1 := (⟨(k4 : Int), (k8 : Int)⟩ : Wr)) (hm := gx2) (H := H)).mono ?_; rintro e w2 ⟨rfl, H⟩; have H := bk3 H; have H := bk2 H; have H := bk1 H; have H := bk0 H; exact ⟨_, rfl, hΦ _ _ (Sub.refl _) H⟩
          apply ObO.valw (V := .slice (some ⟨be1, oe1, none⟩) (small a0).length cr10)
          · intro x; rfl
          · intro s' w' y Φ R hs H hG hΦ; refine wantG rfl ?_; refine O_mv rfl rfl ?_; exact hΦ _ _ (Sub.refl _) H
          apply ObO.valw (V := .agg #[.int .i64 (k4 : Int), .int .i64 (k8 : Int)])
          · intro x; rfl
          · intro s' w' y Φ R hs H hG hΦ; refine wantG rfl ?_; refine G_pNi 0 _ _ rfl (Try.isAgg41 _) rfl H rfl (Try.sizeOf41 _) ?_; exact hΦ _ _ (Sub.refl _) H
          apply ObO.valw (V := .bool u3)
          · intro x; rfl
          · intro s' w' y Φ R hs H hG hΦ; simp only [List.nil_append, List.cons_append] at hG; have e3 : y 3 = _ := dh_get hG 3 rfl (by kernel_rfl); have e4 : y 4 = _ := dh_get hG 4 rfl (by kernel_rfl); simp only [e3, e4]; refine wantG rfl ?_; refine O_call2 rfl Try.func24 rfl rfl rfl rfl ?_; refine (assayerref04_Final_w (a0 := (small a0)) (h_p0 := (hr10.mono hs)) (a1 := (⟨(k4 : Int), (k8 : Int)⟩ : Wr)) (hm := gx3) (H := H)).mono ?_; rintro e w2 ⟨rfl, H⟩; exact ⟨_, rfl, hΦ _ _ (Sub.refl _) H⟩
          apply ObO.valw (V := .bool (!(u2 == u3)))
          · intro x; rfl
          · intro s' w' y Φ R hs H hG hΦ; simp only [List.nil_append, List.cons_append] at hG; have e2 : y 2 = _ := dh_get hG 2 rfl (by kernel_rfl); have e5 : y 5 = _ := dh_get hG 5 rfl (by kernel_rfl); simp only [e2, e5]; refine wantG rfl ?_; refine O_bin rfl rfl rfl eqg_bool (r_bne Try.underlying4) ?_; exact hΦ _ _ (Sub.refl _) H
          clear H
          intro s3 w3 yy hs3 H hG
          replace H := (show Holds _ _ ([] ++ _) _ from H); rw [List.nil_append] at H
          simp only [List.nil_append, List.cons_append] at hG
          have e0 : yy 0 = _ := gh_get hG 0 rfl
          have e1 : yy 1 = _ := gh_get hG 1 rfl
          have e2 : yy 2 = _ := gh_get hG 2 rfl
          have e3 : yy 3 = _ := gh_get hG 3 rfl
          have e4 : yy 4 = _ := gh_get hG 4 rfl
          have e5 : yy 5 = _ := gh_get hG 5 rfl
          have e6 : yy 6 = _ := gh_get hG 6 rfl
          simp only [e0, e1, e2, e3, e4, e5, e6]
          clear hG e0 e1 e2 e3 e4 e5 e6
          replace H := H.forget hs3; clear hs3
          refine list_end ?_
          refine then_norm ?_
          refine wp_cond_split rfl (fun hc => ?_) (fun hc => ?_)
          · have hc3 := hc
            clear hc
            replace hq8 := ifT hc3 hq8
            refine wp_seq ?_
            refine wp_region_lit ?_
            apply seq_op (V := .bool false) rfl
            · intro Φ hΦ; refine O_as rfl rfl ?_; exact hΦ
            (try simp only [Act.put, List.setIfInBounds_toArray, List.set_cons_succ, List.set_cons_zero])
            refine list_end ?_
            refine then_norm ?_
            refine wp_ret ?_
            refine then_ret ?_
            refine block_ret ?_
            refine then_ret ?_
            refine then_ret ?_
            refine block_ret ?_
            refine then_ret ?_
            refine block_ret ?_
            refine then_ret ?_
            refine then_ret ?_
            refine block_ret ?_
            refine then_ret ?_
            have hq8 := Option.some.inj hq8
            subst hq8
            (try dsimp only at hq4)
            have hq4 := Option.some.inj hq4
            subst hq4
            (try dsimp only at hm)
            have hm := Option.some.inj hm
            subst hm
            replace H := H.dropAt 7 rfl; simp only [List.eraseIdx_cons_succ, List.eraseIdx_cons_zero] at H
            replace H := H.dropAt 6 rfl; simp only [List.eraseIdx_cons_succ, List.eraseIdx_cons_zero] at H
            replace H := H.dropAt 5 rfl; simp only [List.eraseIdx_cons_succ, List.eraseIdx_cons_zero] at H
            replace H := H.dropAt 4 rfl; simp only [List.eraseIdx_cons_succ, List.eraseIdx_cons_zero] at H
            replace H := H.dropAt 3 rfl; simp only [List.eraseIdx_cons_succ, List.eraseIdx_cons_zero] at H
            replace H := H.dropAt 2 rfl; simp only [List.eraseIdx_cons_succ, List.eraseIdx_cons_zero] at H
            replace H := H.dropAt 1 rfl; simp only [List.eraseIdx_cons_succ, List.eraseIdx_cons_zero] at H
            replace H := H.dropAt 0 rfl; simp only [List.eraseIdx_cons_succ, List.eraseIdx_cons_zero] at H
            replace H := H.forget hS
            exact ret1 rfl (rv_tmp rfl) rfl ⟨rfl, H⟩
          · have hc3 := hc
            clear hc
            replace hq8 := ifF hc3 hq8
            refine wp_skip ?_
            refine then_norm ?_
            refine wp_seq ?_
            refine wp_seq ?_
            refine wp_region_lit ?_
            apply seq_op (V := .pointer (some ⟨b12, 0, none⟩)) rfl
            · intro Φ hΦ; refine O_fld rfl Try.underlying35 rfl (Try.sizeOf3 _) rfl ?_; exact hΦ
            (try simp only [Act.put, List.setIfInBounds_toArray, List.set_cons_succ, List.set_cons_zero])
            apply seq_op (V := .int .i64 x8.kind) rfl
            · intro Φ hΦ; refine L_1 1 _ _ rfl (Try.isAgg3 _) rfl H rfl rfl ?_; exact hΦ
            (try simp only [Act.put, List.setIfInBounds_toArray, List.set_cons_succ, List.set_cons_zero])
            apply seq_op (V := .bool (x8.kind != 1)) rfl
            · intro Φ hΦ; refine O_bin rfl rfl rfl eqg_int r_neq ?_; exact hΦ
            (try simp only [Act.put, List.setIfInBounds_toArray, List.set_cons_succ, List.set_cons_zero])
            apply seq_op (V := .bool (x8.kind != 1)) rfl
            · intro Φ hΦ; refine O_mv rfl rfl ?_; exact hΦ
            (try simp only [Act.put, List.setIfInBounds_toArray, List.set_cons_succ, List.set_cons_zero])
            refine seq_opg (c := (x8.kind != 1)) (V := .pointer (some ⟨b12, 0, none⟩)) (by first | exact wanted_t rfl rfl rfl | exact wanted_vt rfl rfl rfl) ?_ ?_
            · intro hc Φ hΦ; refine O_fld rfl Try.underlying35 rfl (Try.sizeOf3 _) rfl ?_; exact hΦ
            (try simp only [Act.put, List.setIfInBounds_toArray, List.set_cons_succ, List.set_cons_zero])
            refine seq_opg (c := (x8.kind != 1)) (V := .int .i64 x8.kind) (by first | exact wanted_t rfl rfl rfl | exact wanted_vt rfl rfl rfl) ?_ ?_
            · intro hc Φ hΦ; (repeat (first | rw [vg_of hc] | rw [vg_of (and_l hc)] | rw [vg_of (and_l (and_l hc))] | rw [vg_of (and_l (and_l (and_l hc)))] | rw [vg_and hc])); refine L_1 1 _ _ rfl (Try.isAgg3 _) rfl H rfl rfl ?_; exact hΦ
            (try simp only [Act.put, List.setIfInBounds_toArray, List.set_cons_succ, List.set_cons_zero])
            refine seq_opg (c := (x8.kind != 1)) (V := .bool (x8.kind != 3)) (by first | exact wanted_t rfl rfl rfl | exact wanted_vt rfl rfl rfl) ?_ ?_
            · intro hc Φ hΦ; (repeat (first | rw [vg_of hc] | rw [vg_of (and_l hc)] | rw [vg_of (and_l (and_l hc))] | rw [vg_of (and_l (and_l (and_l hc)))] | rw [vg_and hc])); refine O_bin rfl rfl rfl eqg_int r_neq ?_; exact hΦ
            (try simp only [Act.put, List.setIfInBounds_toArray, List.set_cons_succ, List.set_cons_zero])
            apply seq_op (V := .bool ((x8.kind != 1) && (x8.kind != 3))) rfl
            · intro Φ hΦ; refine G_and _ _ _ rfl rfl rfl rfl ?_; exact hΦ
            (try simp only [Act.put, List.setIfInBounds_toArray, List.set_cons_succ, List.set_cons_zero])
            refine list_end ?_
            refine then_norm ?_
            refine wp_cond_split rfl (fun hc => ?_) (fun hc => ?_)
            · have hc4 := hc
              clear hc
              replace hq8 := ifT hc4 hq8
              refine wp_exit ?_
              refine then_exit ?_
              refine block_exit ?_
              refine then_norm ?_
              refine wp_region_lit ?_
              apply seq_op (V := .int .i64 (IntKind.i64.wrap ((k8 : Int) + 1))) rfl
              · intro Φ hΦ; refine O_bin rfl rfl rfl eqg_int r_add ?_; exact hΦ
              (try simp only [Act.put, List.setIfInBounds_toArray, List.set_cons_succ, List.set_cons_zero])
              apply seq_op (V := .int .i64 (IntKind.i64.wrap ((k8 : Int) + 1))) rfl
              · intro Φ hΦ; refine O_mv rfl rfl ?_; exact hΦ
              (try simp only [Act.put, List.setIfInBounds_toArray, List.set_cons_succ, List.set_cons_zero])
              refine list_end ?_
              refine then_norm ?_
              replace H := H.drop
              replace H := H.drop
              refine ⟨⟨⟨rfl, rfl, rfl, rfl, rfl, rfl, rfl, rfl, rfl, rfl, rfl, rfl, rfl, rfl, rfl, rfl, rfl, rfl, rfl, rfl, rfl, rfl, rfl, rfl, rfl, rfl, rfl, rfl, rfl, rfl, rfl, rfl, rfl, rfl, rfl, rfl, rfl, rfl, rfl, rfl, rfl, rfl, rfl, rfl, rfl, rfl, rfl, rfl⟩, rfl⟩, ⟨k8 + 1, _, y8_p0, hd8'', wrap_succ hl8 hn8, hq8, H⟩, ?_⟩
              exact meas_succ hl8 hn8
            · have hc4 := hc
              clear hc
              replace hq8 := ifF hc4 hq8
              refine wp_skip ?_
              refine then_norm ?_
              refine wp_seq ?_
              refine wp_region_lit ?_
              apply seq_op (V := .pointer (some ⟨br20, 0, none⟩)) rfl
              · intro Φ hΦ; refine O_mv rfl rfl ?_; exact hΦ
              (try simp only [Act.put, List.setIfInBounds_toArray, List.set_cons_succ, List.set_cons_zero])
              apply seq_op (V := .agg #[.int .i64 (k4 : Int), .int .i64 (k8 : Int)]) rfl
              · intro Φ hΦ; refine G_pNi 0 _ _ rfl (Try.isAgg41 _) rfl H rfl (Try.sizeOf41 _) ?_; exact hΦ
              (try simp only [Act.put, List.setIfInBounds_toArray, List.set_cons_succ, List.set_cons_zero])
              refine seq_opH (V := .bool u2) H rfl ?_ ?_
              · intro Φ hΦ; refine O_call2 rfl Try.func23 rfl rfl rfl rfl ?_; obtain ⟨sl0, hsl0, hb0, H, bk0, bg0⟩ := lendAt 4 rfl H; simp only [List.eraseIdx_cons_succ, List.eraseIdx_cons_zero, List.cons_append] at H bk0; obtain ⟨sl1, hsl1, hb1, H, bk1, bg1⟩ := lendOsl 4 rfl hsl0 H; simp only [List.eraseIdx_cons_succ, List.eraseIdx_cons_zero, List.cons_append] at H bk1; obtain ⟨sl2, hsl2, hb2, H, bk2, bg2⟩ := lendMapF 4 rfl H; simp only [List.eraseIdx_cons_succ, List.eraseIdx_cons_zero, List.cons_append] at H bk2; obtain ⟨sl3, hsl3, hb3, H, bk3, bg3⟩ := lendMapO 4 rfl ((hsl0.trans hsl1).trans hsl2) H; simp only [List.eraseIdx_cons_succ, List.eraseIdx_cons_zero, List.cons_append] at H bk3; refine (table_Table_Final_w (a0 := u1) (hC_p0 := ((Cells.ofB hb0).mono ((hsl1.trans hsl2).trans hsl3))) (h_p0_l := (hb1.mono (hsl2.trans hsl3))) (h_p0_kinds := (hb2.mono hsl3)) (h_p0_writers := hb3) (a1 := (⟨(k4 : Int), (k8 : Int)⟩ : Wr)) (hm := gx2) (H := H)).mono ?_; rintro e w2 ⟨rfl, H⟩; have H := bk3 H; have H := bk2 H; have H := bk1 H; have H := bk0 H; exact ⟨_, rfl, hΦ _ H⟩
              clear H; intro w1 H
              (try simp only [Act.put, List.setIfInBounds_toArray, List.set_cons_succ, List.set_cons_zero])
              refine list_end ?_
              refine then_norm ?_
              refine wp_cond_split rfl (fun hc => ?_) (fun hc => ?_)
              · have hc5 := hc
                clear hc
                replace hq8 := ifT hc5 hq8
                refine wp_region_lit ?_
                apply seq_op (V := .map (some r28)) rfl
                · intro Φ hΦ; refine O_mv rfl rfl ?_; exact hΦ
                (try simp only [Act.put, List.setIfInBounds_toArray, List.set_cons_succ, List.set_cons_zero])
                apply seq_op (V := .pointer (some ⟨b12, 1, none⟩)) rfl
                · intro Φ hΦ; refine O_fld rfl Try.underlying35 rfl (Try.sizeOf9 _) rfl ?_; exact hΦ
                (try simp only [Act.put, List.setIfInBounds_toArray, List.set_cons_succ, List.set_cons_zero])
                apply seq_op (V := .string x8.key) rfl
                · intro Φ hΦ; refine L_1 1 _ _ rfl (Try.isAgg9 _) rfl H rfl rfl ?_; exact hΦ
                (try simp only [Act.put, List.setIfInBounds_toArray, List.set_cons_succ, List.set_cons_zero])
                apply seq_op (V := .int .i64 ((y8_p0 x8.key).getD 0)) rfl
                · intro Φ hΦ; refine F_get mk_S 2 39 _ _ rfl Try.underlying39 (k := x8.key) (Nat.le_trans h1e2 (by decide)) rfl rfl H rfl (Try.zeroValue3 _) ?_; exact hΦ
                (try simp only [Act.put, List.setIfInBounds_toArray, List.set_cons_succ, List.set_cons_zero])
                apply seq_op (V := .int .i64 (IntKind.i64.wrap (((y8_p0 x8.key).getD 0) + 1))) rfl
                · intro Φ hΦ; refine O_bin rfl rfl rfl eqg_int r_add ?_; exact hΦ
                (try simp only [Act.put, List.setIfInBounds_toArray, List.set_cons_succ, List.set_cons_zero])
                refine OpG.list rfl ?_; refine F_put mk_S 2 39 _ _ _ rfl Try.underlying39 (k := x8.key) (v := IntKind.i64.wrap (((y8_p0 x8.key).getD 0) + 1)) (Nat.le_trans h1e2 (by decide)) trivial rfl rfl rfl H rfl ?_; clear H; intro w1 H; simp only [List.set_cons_succ, List.set_cons_zero] at H
                (try simp only [Act.put, List.setIfInBounds_toArray, List.set_cons_succ, List.set_cons_zero])
                refine list_end ?_
                refine block_norm ?_
                refine then_norm ?_
                refine wp_region_lit ?_
                apply seq_op (V := .int .i64 (IntKind.i64.wrap ((k8 : Int) + 1))) rfl
                · intro Φ hΦ; refine O_bin rfl rfl rfl eqg_int r_add ?_; exact hΦ
                (try simp only [Act.put, List.setIfInBounds_toArray, List.set_cons_succ, List.set_cons_zero])
                apply seq_op (V := .int .i64 (IntKind.i64.wrap ((k8 : Int) + 1))) rfl
                · intro Φ hΦ; refine O_mv rfl rfl ?_; exact hΦ
                (try simp only [Act.put, List.setIfInBounds_toArray, List.set_cons_succ, List.set_cons_zero])
                refine list_end ?_
                refine then_norm ?_
                replace H := H.drop
                replace H := H.drop
                refine ⟨⟨⟨rfl, rfl, rfl, rfl, rfl, rfl, rfl, rfl, rfl, rfl, rfl, rfl, rfl, rfl, rfl, rfl, rfl, rfl, rfl, rfl, rfl, rfl, rfl, rfl, rfl, rfl, rfl, rfl, rfl, rfl, rfl, rfl, rfl, rfl, rfl, rfl, rfl, rfl, rfl, rfl, rfl, rfl, rfl, rfl, rfl, rfl, rfl, rfl⟩, rfl⟩, ⟨k8 + 1, _, (fset y8_p0 x8.key (IntKind.i64.wrap (((y8_p0 x8.key).getD 0) + 1))), hd8'', wrap_succ hl8 hn8, hq8, H⟩, ?_⟩
                exact meas_succ hl8 hn8
              · have hc5 := hc
                clear hc
                replace hq8 := ifF hc5 hq8
                refine wp_region_lit ?_
                apply seq_op (V := .map (some r28)) rfl
                · intro Φ hΦ; refine O_mv rfl rfl ?_; exact hΦ
                (try simp only [Act.put, List.setIfInBounds_toArray, List.set_cons_succ, List.set_cons_zero])
                apply seq_op (V := .pointer (some ⟨b12, 1, none⟩)) rfl
                · intro Φ hΦ; refine O_fld rfl Try.underlying35 rfl (Try.sizeOf9 _) rfl ?_; exact hΦ
                (try simp only [Act.put, List.setIfInBounds_toArray, List.set_cons_succ, List.set_cons_zero])
                apply seq_op (V := .string x8.key) rfl
                · intro Φ hΦ; refine L_1 1 _ _ rfl (Try.isAgg9 _) rfl H rfl rfl ?_; exact hΦ
                (try simp only [Act.put, List.setIfInBounds_toArray, List.set_cons_succ, List.set_cons_zero])
                apply seq_op (V := .int .i64 ((y8_p0 x8.key).getD 0)) rfl
                · intro Φ hΦ; refine F_get mk_S 2 39 _ _ rfl Try.underlying39 (k := x8.key) (Nat.le_trans h1e2 (by decide)) rfl rfl H rfl (Try.zeroValue3 _) ?_; exact hΦ
                (try simp only [Act.put, List.setIfInBounds_toArray, List.set_cons_succ, List.set_cons_zero])
                apply seq_op (V := .int .i64 (IntKind.i64.wrap (((y8_p0 x8.key).getD 0) + 0))) rfl
                · intro Φ hΦ; refine O_bin rfl rfl rfl eqg_int r_add ?_; exact hΦ
                (try simp only [Act.put, List.setIfInBounds_toArray, List.set_cons_succ, List.set_cons_zero])
                refine OpG.list rfl ?_; refine F_put mk_S 2 39 _ _ _ rfl Try.underlying39 (k := x8.key) (v := IntKind.i64.wrap (((y8_p0 x8.key).getD 0) + 0)) (Nat.le_trans h1e2 (by decide)) trivial rfl rfl rfl H rfl ?_; clear H; intro w1 H; simp only [List.set_cons_succ, List.set_cons_zero] at H
                (try simp only [Act.put, List.setIfInBounds_toArray, List.set_cons_succ, List.set_cons_zero])
                refine list_end ?_
                refine block_norm ?_
                refine then_norm ?_
                refine wp_region_lit ?_
                apply seq_op (V := .int .i64 (IntKind.i64.wrap ((k8 : Int) + 1))) rfl
                · intro Φ hΦ; refine O_bin rfl rfl rfl eqg_int r_add ?_; exact hΦ
                (try simp only [Act.put, List.setIfInBounds_toArray, List.set_cons_succ, List.set_cons_zero])
                apply seq_op (V := .int .i64 (IntKind.i64.wrap ((k8 : Int) + 1))) rfl
                · intro Φ hΦ; refine O_mv rfl rfl ?_; exact hΦ
                (try simp only [Act.put, List.setIfInBounds_toArray, List.set_cons_succ, List.set_cons_zero])
                refine list_end ?_
                refine then_norm ?_
                replace H := H.drop
                replace H := H.drop
                refine ⟨⟨⟨rfl, rfl, rfl, rfl, rfl, rfl, rfl, rfl, rfl, rfl, rfl, rfl, rfl, rfl, rfl, rfl, rfl, rfl, rfl, rfl, rfl, rfl, rfl, rfl, rfl, rfl, rfl, rfl, rfl, rfl, rfl, rfl, rfl, rfl, rfl, rfl, rfl, rfl, rfl, rfl, rfl, rfl, rfl, rfl, rfl, rfl, rfl, rfl⟩, rfl⟩, ⟨k8 + 1, _, (fset y8_p0 x8.key (IntKind.i64.wrap (((y8_p0 x8.key).getD 0) + 0))), hd8'', wrap_succ hl8 hn8, hq8, H⟩, ?_⟩
                exact meas_succ hl8 hn8
        · have hc2 := hc
          clear hc
          obtain rfl := rng_f hd8 hc2
          rw [assayerlaw04_TableFinals_l8] at hq8
          refine wp_exit ?_
          refine then_exit ?_
          refine then_exit ?_
          have hq8 := Option.some.inj hq8
          subst hq8
          (try dsimp only at hq4)
          refine block_exit ?_
          refine then_norm ?_
          refine wp_seq ?_
          refine wp_region_lit ?_
          apply seq_op (V := .map (some r28)) rfl
          · intro Φ hΦ; refine O_mv rfl rfl ?_; exact hΦ
          (try simp only [Act.put, List.setIfInBounds_toArray, List.set_cons_succ, List.set_cons_zero])
          obtain ⟨mm1, hmm1, H⟩ := mpF_open 0 rfl H; simp only [List.eraseIdx_cons_succ, List.eraseIdx_cons_zero] at H
          obtain ⟨⟨hum1, hokm1⟩, H⟩ := mps_open (i := 0) H rfl; try simp only [List.eraseIdx_cons_succ, List.eraseIdx_cons_zero] at H; obtain ⟨esm1, cm1, ⟨hem1, hwfm1⟩, H⟩ := mp_open H; try simp only [List.eraseIdx_cons_succ, List.eraseIdx_cons_zero] at H
          refine OpG.list rfl ?_; refine G_range 0 39 _ rfl Try.underlying39 rfl H rfl ?_; clear H; intro itm1 w1 H
          (try simp only [Act.put, List.setIfInBounds_toArray, List.set_cons_succ, List.set_cons_zero])
          refine list_end ?_
          refine then_norm ?_
          refine wp_block ?_
          refine wp_loopN [none, none, none, none, none, none, some 6, none, none, none, none, none, none, none, none, some 15, none, none, none, none, none, none, none, none, none, none, none, none, none, none, none, none, none, none, none, none, none, none, none, none, none, none, none, none, none, none, none, none, none, none, none, none, none, none, none, none, none, none, none, none, none, none, none, none, none, none, none, none, none, none, none, some 71, some 72, some 73, some 74, some 75, some 76, none, none, none, none, none, none, none, none, none, none, none] rfl (by simp) (fun n f w => ∃ (seen : Array Nat) (done : List MapEntry), n = esm1.size - done.length ∧ seen.toList = done.map (·.born) ∧ (∀ e ∈ done, e ∈ esm1.toList) ∧ (done.map (·.born)).Nodup ∧ (∀ (k0 : ByteArray) (x0 : Int), (∃ e ∈ done, e.key = kcS.enc k0) → y8_p0 k0 = some x0 → ((x0 != 1)) = false) ∧ Holds E s2 (pt itm1 (.mapIter (some r28) cm1 seen cm1) :: pt r28 (.map esm1 cm1) :: pt b9 (.cells #[.int .i64 x4.proc, .int .i64 x4.state, .int .i64 x4.from_, .int .i64 x4.to, .slice A4e1 x4.ops.length c4e1] 30 (0, 0)) :: pt br20 (.cells #[.slice Ar20_l u1.l.length cr20_l, .map (some rr20_kinds), .map (some rr20_writers), .bool u1.made] 98 (0, 0)) :: (kT.sh s2).Osl (.slice Ar20_l u1.l.length cr20_l) u1.l :: mpF kcS vcI rr20_kinds u1.kinds :: mpO kcP kWr s2 rr20_writers u1.writers :: L) w) ?_ ?_
          · exact ⟨_, #[], [], rfl, rfl, (fun e h => (List.not_mem_nil h).elim), List.Pairwise.nil, (fun k x ⟨e, h, _⟩ => (List.not_mem_nil h).elim), H⟩
          · clear H
            intro n f w hI
            obtain ⟨seen, done, hn, hseen, hd, hnd, hg1, H⟩ := hI
            simp only [ovm, mixM]
            refine wp_seq ?_
            refine wp_region_lit ?_
            refine OpG.list rfl ?_; refine G_nextB 0 1 _ rfl rfl H rfl rfl hwfm1 ?_; clear H; intro b e w1 hb1 hb2 H; simp only [List.set_cons_succ, List.set_cons_zero] at H
            (try simp only [Act.put, List.setIfInBounds_toArray, List.set_cons_succ, List.set_cons_zero])
            refine OpG.list rfl ?_; refine G_extract0 _ rfl rfl ?_
            (try simp only [Act.put, List.setIfInBounds_toArray, List.set_cons_succ, List.set_cons_zero])
            refine list_end ?_
            refine then_norm ?_
            refine wp_seq ?_
            refine wp_cond_split rfl (fun hc => ?_) (fun hc => ?_)
            · subst hc
              simp only [if_true] at H
              refine wp_skip ?_
              refine then_norm ?_
              obtain ⟨key, val, born⟩ := e
              obtain ⟨hin, hnew⟩ := hb1 rfl
              obtain ⟨k0, x0, ek, hk0, hf0, ev⟩ := KF_ent hmm1 hum1 hokm1 hem1 hin
              subst ek; subst ev
              replace hq4 := any_step (c := (x0 != 1)) (fun hcc => ⟨k0, x0, hf0, hcc⟩) hq4
              refine wp_block ?_
              refine wp_seq ?_
              refine wp_region_lit ?_
              refine OpG.list rfl ?_; refine G_entry 0 1 _ rfl rfl H rfl rfl hwfm1 hin ?_
              (try simp only [Act.put, List.setIfInBounds_toArray, List.set_cons_succ, List.set_cons_zero])
              apply seq_op (V := .int .i64 x0) rfl
              · intro Φ hΦ; refine O_ext rfl rfl rfl ?_; exact hΦ
              (try simp only [Act.put, List.setIfInBounds_toArray, List.set_cons_succ, List.set_cons_zero])
              apply seq_op (V := .int .i64 x0) rfl
              · intro Φ hΦ; refine O_as rfl rfl ?_; exact hΦ
              (try simp only [Act.put, List.setIfInBounds_toArray, List.set_cons_succ, List.set_cons_zero])
              refine list_end ?_
              refine then_norm ?_
              refine wp_seq ?_
              refine wp_region_lit ?_
              apply seq_op (V := .int .i64 x0) rfl
              · intro Φ hΦ; refine O_mv rfl rfl ?_; exact hΦ
              (try simp only [Act.put, List.setIfInBounds_toArray, List.set_cons_succ, List.set_cons_zero])
              apply seq_op (V := .bool (x0 != 1)) rfl
              · intro Φ hΦ; refine O_bin rfl rfl rfl eqg_int r_neq ?_; exact hΦ
              (try simp only [Act.put, List.setIfInBounds_toArray, List.set_cons_succ, List.set_cons_zero])
              refine list_end ?_
              refine then_norm ?_
              refine wp_cond_split rfl (fun hc => ?_) (fun hc => ?_)
              · have hc6 := hc
                clear hc
                replace hq4 := ifT hc6 hq4
                refine wp_seq ?_
                refine wp_region_lit ?_
                apply seq_op (V := .bool false) rfl
                · intro Φ hΦ; refine O_as rfl rfl ?_; exact hΦ
                (try simp only [Act.put, List.setIfInBounds_toArray, List.set_cons_succ, List.set_cons_zero])
                refine list_end ?_
                refine then_norm ?_
                refine wp_ret ?_
                refine block_ret ?_
                refine then_ret ?_
                refine block_ret ?_
                refine block_ret ?_
                refine then_ret ?_
                refine then_ret ?_
                refine block_ret ?_
                refine then_ret ?_
                have hq4 := Option.some.inj hq4
                subst hq4
                (try dsimp only at hm)
                have hm := Option.some.inj hm
                subst hm
                replace H := H.dropAt 6 rfl; simp only [List.eraseIdx_cons_succ, List.eraseIdx_cons_zero] at H
                replace H := H.dropAt 5 rfl; simp only [List.eraseIdx_cons_succ, List.eraseIdx_cons_zero] at H
                replace H := H.dropAt 4 rfl; simp only [List.eraseIdx_cons_succ, List.eraseIdx_cons_zero] at H
                replace H := H.dropAt 3 rfl; simp only [List.eraseIdx_cons_succ, List.eraseIdx_cons_zero] at H
                replace H := H.dropAt 2 rfl; simp only [List.eraseIdx_cons_succ, List.eraseIdx_cons_zero] at H
                replace H := H.dropAt 1 rfl; simp only [List.eraseIdx_cons_succ, List.eraseIdx_cons_zero] at H
                replace H := H.dropAt 0 rfl; simp only [List.eraseIdx_cons_succ, List.eraseIdx_cons_zero] at H
                replace H := H.forget hS
                exact ret1 rfl (rv_tmp rfl) rfl ⟨rfl, H⟩
              · have hc6 := hc
                clear hc
                replace hq4 := ifF hc6 hq4
                refine wp_skip ?_
                refine block_norm ?_
                refine then_norm ?_
                have hle := nodup_le (a := (done ++ [(⟨kcS.enc k0, .int .i64 x0, born⟩ : MapEntry)]).map (fun e : MapEntry => e.born)) (b := esm1.toList.map (fun e : MapEntry => e.born)) (by rw [List.map_append, List.nodup_append]; exact ⟨hnd, by simp, fun x hx y hy e => hnew (by rw [hseen]; simp only [List.map_cons, List.map_nil, List.mem_singleton] at hy; rw [← hy, ← e]; exact hx)⟩) (fun x hx => by obtain ⟨e, he, rfl⟩ := List.mem_map.1 hx; rcases List.mem_append.1 he with h | h; exact List.mem_map.2 ⟨e, hd e h, rfl⟩; rw [List.mem_singleton.1 h]; exact List.mem_map.2 ⟨_, hin, rfl⟩)
                simp only [List.length_map, List.length_append, List.length_cons, List.length_nil, Array.length_toList] at hle
                refine ⟨⟨⟨rfl, rfl, rfl, rfl, rfl, rfl, rfl, rfl, rfl, rfl, rfl, rfl, rfl, rfl, rfl, rfl, rfl, rfl, rfl, rfl, rfl, rfl, rfl, rfl, rfl, rfl, rfl, rfl, rfl, rfl, rfl, rfl, rfl, rfl, rfl, rfl, rfl, rfl, rfl, rfl, rfl, rfl, rfl, rfl, rfl, rfl, rfl, rfl, rfl, rfl, rfl, rfl, rfl, rfl, rfl, rfl, rfl, rfl, rfl, rfl, rfl, rfl, rfl, rfl, rfl, rfl, rfl, rfl, rfl, rfl, rfl, rfl, rfl, rfl, rfl, rfl, rfl, rfl, rfl, rfl, rfl⟩, rfl⟩, esm1.size - (done.length + 1), by omega, seen.push born, done ++ [⟨kcS.enc k0, .int .i64 x0, born⟩], by simp, by simp [hseen], ?_, ?_, ?_, H⟩
                · intro e he; rcases List.mem_append.1 he with h | h; exact hd e h; rw [List.mem_singleton.1 h]; exact hin
                · rw [List.map_append, List.nodup_append]; exact ⟨hnd, by simp, fun x hx y hy e => hnew (by rw [hseen]; simp only [List.map_cons, List.map_nil, List.mem_singleton] at hy; rw [← hy, ← e]; exact hx)⟩
                · intro k x hk hx; obtain ⟨e, he, e2⟩ := hk; rcases List.mem_append.1 he with h | h; exact hg1 k x ⟨e, h, e2⟩ hx; rw [List.mem_singleton.1 h] at e2; obtain rfl := kcS_inj e2; rw [hf0] at hx; obtain rfl := Option.some.inj hx; exact hc6
            · subst hc
              simp only [Bool.false_eq_true, if_false] at H
              have hall := hb2 rfl
              replace hq4 := ifN (fun ⟨k0, x0, hx, hcc⟩ => by obtain ⟨e1, h1, h2⟩ := KF_all hmm1 hem1 hx; have h3 := hall e1 h1; rw [hseen] at h3; obtain ⟨e2, h4, h5⟩ := List.mem_map.1 h3; have h6 := hg1 k0 x0 ⟨e2, h4, by rw [born_inj hwfm1.1 (hd e2 h4) h1 h5]; exact h2⟩ hx; rw [h6] at hcc; cases hcc) hq4
              refine wp_exit ?_
              refine then_exit ?_
              refine then_exit ?_
              refine block_exit ?_
              refine block_norm ?_
              refine then_norm ?_
              refine wp_region_lit ?_
              apply seq_op (V := .int .i64 (IntKind.i64.wrap ((k4 : Int) + 1))) rfl
              · intro Φ hΦ; refine O_bin rfl rfl rfl eqg_int r_add ?_; exact hΦ
              (try simp only [Act.put, List.setIfInBounds_toArray, List.set_cons_succ, List.set_cons_zero])
              apply seq_op (V := .int .i64 (IntKind.i64.wrap ((k4 : Int) + 1))) rfl
              · intro Φ hΦ; refine O_mv rfl rfl ?_; exact hΦ
              (try simp only [Act.put, List.setIfInBounds_toArray, List.set_cons_succ, List.set_cons_zero])
              refine list_end ?_
              refine then_norm ?_
              replace H := H.drop
              replace H := H.drop
              replace H := H.drop
              refine ⟨⟨⟨rfl, rfl, rfl, rfl, rfl, rfl, rfl, rfl, rfl, rfl, rfl, rfl, rfl, rfl, rfl, rfl, rfl, rfl, rfl, rfl, rfl, rfl, rfl, rfl, rfl, rfl⟩, rfl⟩, ⟨k4 + 1, _, hd4'', wrap_succ hl4 hn4, hq4, H⟩, ?_⟩
              exact meas_succ hl4 hn4
    · have hc1 := hc
      clear hc
      obtain rfl := rng_f hd4 hc1
      rw [assayerlaw04_TableFinals_l4] at hq4
      refine wp_exit ?_
      refine then_exit ?_
      refine then_exit ?_
      have hq4 := Option.some.inj hq4
      subst hq4
      (try dsimp only at hm)
      refine block_exit ?_
      refine then_norm ?_
      refine wp_seq ?_
      refine wp_region_lit ?_
      apply seq_op (V := .int .i64 a1) rfl
      · intro Φ hΦ; refine O_mv rfl rfl ?_; exact hΦ
      (try simp only [Act.put, List.setIfInBounds_toArray, List.set_cons_succ, List.set_cons_zero])
      apply seq_op (V := .int .i64 a2) rfl
      · intro Φ hΦ; refine O_mv rfl rfl ?_; exact hΦ
      (try simp only [Act.put, List.setIfInBounds_toArray, List.set_cons_succ, List.set_cons_zero])
      apply seq_op (V := .agg #[.int .i64 a1, .int .i64 a2]) rfl
      · intro Φ hΦ; refine O_bld (cs := [.int .i64 a1, .int .i64 a2]) rfl (by kernel_rfl) ?_; exact hΦ
      (try simp only [Act.put, List.setIfInBounds_toArray, List.set_cons_succ, List.set_cons_zero])
      refine OpG.list rfl ?_; refine G_alloc 41 rfl (Try.zeroValue41 _) H ?_; clear H; intro b16 w1 H; (try simp only [Value.cells] at H)
      (try simp only [Act.put, List.setIfInBounds_toArray, List.set_cons_succ, List.set_cons_zero])
      refine OpG.list rfl ?_; refine G_setNi 0 (c := [.int .i64 a1, .int .i64 a2]) _ _ _ rfl (Try.sizeOf41 _) rfl rfl (by simp [Value.oneCell']) H rfl rfl ?_; clear H; intro w1 H; simp only [List.set_cons_succ, List.set_cons_zero] at H
      (try simp only [Act.put, List.setIfInBounds_toArray, List.set_cons_succ, List.set_cons_zero])
      refine list_end ?_
      refine then_norm ?_
      refine wp_seq ?_
      obtain ⟨u4, gx4, hm⟩ := bs hm
      obtain ⟨u5, gx5, hm⟩ := bs hm
      refine wp_draw_obO (k := 7) (sz := 88) (List.replicate 7 7) (fun _ => []) mixed (by simp) rfl (by kernel_rfl) (by kernel_rfl) (by kernel_rfl) H (by simp only [List.take_succ_cons, List.take_zero]; exact rfl) (by simp only [List.drop_succ_cons, List.drop_zero]; exact rfl)
        (fun y => by simp only [ov, Act.put, List.setIfInBounds_toArray, List.set_cons_succ, List.set_cons_zero, Nat.zero_add, Nat.reduceAdd]; exact rfl) ?_
      apply ObO.valw (V := .pointer (some ⟨br20, 0, none⟩))
      · intro x; rfl
      · intro s' w' y Φ R hs H hG hΦ; refine wantG rfl ?_; refine O_mv rfl rfl ?_; exact hΦ _ _ (Sub.refl _) H
      apply ObO.valw (V := .agg #[.int .i64 a1, .int .i64 a2])
      · intro x; rfl
      · intro s' w' y Φ R hs H hG hΦ; refine wantG rfl ?_; refine G_pNi 0 _ _ rfl (Try.isAgg41 _) rfl H rfl (Try.sizeOf41 _) ?_; exact hΦ _ _ (Sub.refl _) H
      apply ObO.valw (V := .bool u4)
      · intro x; rfl
      · intro s' w' y Φ R hs H hG hΦ; simp only [List.nil_append, List.cons_append] at hG; have e0 : y 0 = _ := dh_get hG 0 rfl (by kernel_rfl); have e1 : y 1 = _ := dh_get hG 1 rfl (by kernel_rfl); simp only [e0, e1]; refine wantG rfl ?_; refine O_call2 rfl Try.func23 rfl rfl rfl rfl ?_; obtain ⟨sl0, hsl0, hb0, H, bk0, bg0⟩ := lendAt 1 rfl H; simp only [List.eraseIdx_cons_succ, List.eraseIdx_cons_zero, List.cons_append] at H bk0; obtain ⟨sl1, hsl1, hb1, H, bk1, bg1⟩ := lendOsl 1 rfl (hs.trans hsl0) H; simp only [List.eraseIdx_cons_succ, List.eraseIdx_cons_zero, List.cons_append] at H bk1; obtain ⟨sl2, hsl2, hb2, H, bk2, bg2⟩ := lendMapF 1 rfl H; simp only [List.eraseIdx_cons_succ, List.eraseIdx_cons_zero, List.cons_append] at H bk2; obtain ⟨sl3, hsl3, hb3, H, bk3, bg3⟩ := lendMapO 1 rfl (((hs.trans hsl0).trans hsl1).trans hsl2) H; simp only [List.eraseIdx_cons_succ, List.eraseIdx_cons_zero, List.cons_append] at H bk3; refine (table_Table_Final_w (a0 := u1) (hC_p0 := ((Cells.ofB hb0).mono ((hsl1.trans hsl2).trans hsl3))) (h_p0_l := (hb1.mono (hsl2.trans hsl3))) (h_p0_kinds := (hb2.mono hsl3)) (h_p0_writers := hb3) (a1 := (⟨a1, a2⟩ : Wr)) (hm := gx4) (H := H)).mono ?_; rintro e w2 ⟨rfl, H⟩; have H := bk3 H; have H := bk2 H; have H := bk1 H; have H := bk0 H; exact ⟨_, rfl, hΦ _ _ (Sub.refl _) H⟩
      apply ObO.valw (V := .slice Ar10 (small a0).length cr10)
      · intro x; rfl
      · intro s' w' y Φ R hs H hG hΦ; refine wantG rfl ?_; refine O_mv rfl rfl ?_; exact hΦ _ _ (Sub.refl _) H
      apply ObO.valw (V := .agg #[.int .i64 a1, .int .i64 a2])
      · intro x; rfl
      · intro s' w' y Φ R hs H hG hΦ; refine wantG rfl ?_; refine G_pNi 0 _ _ rfl (Try.isAgg41 _) rfl H rfl (Try.sizeOf41 _) ?_; exact hΦ _ _ (Sub.refl _) H
      apply ObO.valw (V := .bool u5)
      · intro x; rfl
      · intro s' w' y Φ R hs H hG hΦ; simp only [List.nil_append, List.cons_append] at hG; have e3 : y 3 = _ := dh_get hG 3 rfl (by kernel_rfl); have e4 : y 4 = _ := dh_get hG 4 rfl (by kernel_rfl); simp only [e3, e4]; refine wantG rfl ?_; refine O_call2 rfl Try.func24 rfl rfl rfl rfl ?_; refine (assayerref04_Final_w (a0 := (small a0)) (h_p0 := (hr10.mono hs)) (a1 := (⟨a1, a2⟩ : Wr)) (hm := gx5) (H := H)).mono ?_; rintro e w2 ⟨rfl, H⟩; exact ⟨_, rfl, hΦ _ _ (Sub.refl _) H⟩
      apply ObO.valw (V := .bool (u4 == u5))
      · intro x; rfl
      · intro s' w' y Φ R hs H hG hΦ; simp only [List.nil_append, List.cons_append] at hG; have e2 : y 2 = _ := dh_get hG 2 rfl (by kernel_rfl); have e5 : y 5 = _ := dh_get hG 5 rfl (by kernel_rfl); simp only [e2, e5]; refine wantG rfl ?_; refine O_bin rfl rfl rfl eqg_bool (r_beq Try.underlying4) ?_; exact hΦ _ _ (Sub.refl _) H
      clear H
      intro s3 w3 yy hs3 H hG
      replace H := (show Holds _ _ ([] ++ _) _ from H); rw [List.nil_append] at H
      simp only [List.nil_append, List.cons_append] at hG
      have e0 : yy 0 = _ := gh_get hG 0 rfl
      have e1 : yy 1 = _ := gh_get hG 1 rfl
      have e2 : yy 2 = _ := gh_get hG 2 rfl
      have e3 : yy 3 = _ := gh_get hG 3 rfl
      have e4 : yy 4 = _ := gh_get hG 4 rfl
      have e5 : yy 5 = _ := gh_get hG 5 rfl
      have e6 : yy 6 = _ := gh_get hG 6 rfl
      simp only [e0, e1, e2, e3, e4, e5, e6]
      clear hG e0 e1 e2 e3 e4 e5 e6
      replace H := H.forget hs3; clear hs3
      apply seq_op (V := .bool (u4 == u5)) rfl
      · intro Φ hΦ; refine O_as rfl rfl ?_; exact hΦ
      (try simp only [Act.put, List.setIfInBounds_toArray, List.set_cons_succ, List.set_cons_zero])
      refine list_end ?_
      refine then_norm ?_
      refine wp_ret ?_
      have hm := Option.some.inj hm
      subst hm
      replace H := H.dropAt 4 rfl; simp only [List.eraseIdx_cons_succ, List.eraseIdx_cons_zero] at H
      replace H := H.dropAt 3 rfl; simp only [List.eraseIdx_cons_succ, List.eraseIdx_cons_zero] at H
      replace H := H.dropAt 2 rfl; simp only [List.eraseIdx_cons_succ, List.eraseIdx_cons_zero] at H
      replace H := H.dropAt 1 rfl; simp only [List.eraseIdx_cons_succ, List.eraseIdx_cons_zero] at H
      replace H := H.dropAt 0 rfl; simp only [List.eraseIdx_cons_succ, List.eraseIdx_cons_zero] at H
      replace H := H.forget hS
      exact ret1 rfl (rv_tmp rfl) rfl ⟨rfl, H⟩
end Go.Proofs.Ytemdmpgekegfhaa
