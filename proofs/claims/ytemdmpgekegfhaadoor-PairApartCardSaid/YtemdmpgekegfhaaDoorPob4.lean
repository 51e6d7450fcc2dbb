/- Walks, printed by fx.py: part 4. -/
import Derived.Test.YtemdmpgekegfhaaDoorPob3
namespace Go.Proofs.YtemdmpgekegfhaaDoor
open Go.RowKit
set_option linter.all false
set_option maxRecDepth 10000
def assayerref03_step_el2_f (a0 : List Ev) (a1 : Int) (a2 : List Prc) (a2i : Int) : Option (Int × (List Prc)) := (rdI a0 a1).bind fun u1 => if (u1.kind == 1) = true then ((rdI a2 a2i).bind fun u2 => if (u2.gone || (decide (u2.open_ ≥ 0))) = true then (some (30, a2)) else (if (!(assayerref03_filled_f u1.ops false)) = true then (some (32, a2)) else (some (0, setI a2 a2i (⟨u2.gone, a1⟩ : Prc))))) else ((rdI a2 a2i).bind fun u3 => if (decide (u3.open_ < 0)) = true then (some (31, a2)) else ((rdI a0 u3.open_).bind fun u4 => (assayerref03_completes_f u4.ops u1.ops).bind fun u5 => if ((!u5) || (!(assayerref03_filled_f u1.ops (u1.kind == 2)))) = true then (some (32, a2)) else (some (0, setI (setI a2 a2i (⟨u3.gone, (-1)⟩ : Prc)) a2i (⟨u1.kind == 4, ((⟨u3.gone, (-1)⟩ : Prc)).open_⟩ : Prc)))))

set_option maxHeartbeats 4000000 in
theorem assayerref03_step_el2_w {E : World} {s : SH} {L : List HP} {w : World} {a0 : List Ev} {a1 : Int} {a2 : List Prc} {a2i : Int} {A_p0 : Option Addr} {c_p0 : Nat} (h_p0 : kEv.Sl s (.slice A_p0 a0.length c_p0) a0) {b_p2 k_p2 n_p2 c_p2 : Nat} (hk_p2 : a2i = (k_p2 : Int)) (hr_p1 : Kin.inI64 a1) {R : Int × (List Prc)} (hm : assayerref03_step_el2_f a0 a1 a2 a2i = some R) (H : Holds E s ((kPr.sh s).Osl (.slice (some ⟨b_p2, 0, none⟩) n_p2 c_p2) a2 :: L) w) :
    Calls Tryd.prog 79 #[.slice A_p0 a0.length c_p0, .int .i64 a1, .pointer (some ⟨b_p2, k_p2 * 2, none⟩)] w fun e w' => e = .returned (.int .i64 R.1) ∧ Holds E s ((kPr.sh s).Osl (.slice (some ⟨b_p2, 0, none⟩) n_p2 c_p2) R.2 :: L) w' := by
  unfold assayerref03_step_el2_f at hm
  go_enter Tryd.func79, Tryd.ntmps79
  refine wp_seq ?_
  refine wp_region_lit ?_
  apply seq_op (V := .int .i64 0) rfl
  · exact fun _ h => O_as rfl rfl h
  (try simp only [PT])
  refine list_end ?_
  refine then_norm ?_
  refine wp_seq ?_
  obtain ⟨u1, gx1, hm⟩ := bs hm
  obtain ⟨kk1, gk1, gl1, gd1⟩ := rdI_some gx1
  obtain ⟨be1, oe1, A2e1, c2e1, rfl, hCe1, h0e1, h1e1, h2e1⟩ := kEv_el h_p0 gd1
  refine wp_region_lit ?_
  apply seq_op (V := .slice (some ⟨be1, oe1, none⟩) a0.length c_p0) rfl
  · exact fun _ h => O_mv rfl rfl h
  (try simp only [PT])
  apply seq_op (V := .int .i64 a1) rfl
  · exact fun _ h => O_mv rfl rfl h
  (try simp only [PT])
  apply seq_op (V := .pointer (some ⟨be1, oe1 + kk1 * 3, none⟩)) rfl
  · exact fun _ h => O_ix rfl Tryd.underlying55 (Tryd.sizeOf73 _) rfl rfl gk1 gl1 h
  (try simp only [PT])
  apply seq_op (V := .agg #[.int .i64 u1.kind, .int .i64 u1.proc, .slice A2e1 u1.ops.length c2e1]) rfl
  · exact fun _ h => G_sN _ _ rfl (Tryd.isAgg73 _) rfl H hCe1 (Tryd.sizeOf73 _) h
  (try simp only [PT])
  refine OpG.list rfl ?_; refine G_alloc 73 rfl (Tryd.zeroValue73 _) H ?_; clear H; intro b7 w1 H; (try simp only [Value.cells] at H)
  (try simp only [PT])
  refine OpG.list rfl ?_; refine G_setNi 0 (c := [.int .i64 u1.kind, .int .i64 u1.proc, .slice A2e1 u1.ops.length c2e1]) _ _ _ rfl (Tryd.sizeOf73 _) rfl rfl (by simp [Value.oneCell']) H rfl rfl ?_; clear H; intro w1 H; simp only [List.set_cons_succ, List.set_cons_zero] at H
  (try simp only [PT])
  refine list_end ?_
  refine then_norm ?_
  refine wp_seq ?_
  refine wp_seq ?_
  refine wp_region_lit ?_
  apply seq_op (V := .pointer (some ⟨b7, 0, none⟩)) rfl
  · exact fun _ h => O_fld rfl Tryd.underlying73 rfl (Tryd.sizeOf3 _) rfl h
  (try simp only [PT])
  apply seq_op (V := .int .i64 u1.kind) rfl
  · exact fun _ h => L_1 0 _ _ rfl (Tryd.isAgg3 _) rfl H rfl rfl h
  (try simp only [PT])
  apply seq_op (V := .bool (u1.kind == 1)) rfl
  · exact fun _ h => O_bin rfl rfl rfl eqg_int r_eql h
  (try simp only [PT])
  refine list_end ?_
  refine then_norm ?_
  refine wp_cond_split rfl (fun hc => ?_) (fun hc => ?_)
  · have hc1 := hc
    clear hc
    replace hm := ifT hc1 hm
    refine wp_seq ?_
    refine wp_seq ?_
    obtain ⟨u2, gx2, hm⟩ := bs hm
    obtain ⟨kk2, gk2, gl2, gd2⟩ := rdI_some gx2
    obtain rfl : k_p2 = kk2 := by omega
    have gngl2 := Nat.lt_of_lt_of_eq gl2 (osl_len 1 H rfl).symm
    obtain ⟨cse2, hKe2⟩ := own_has 1 H rfl gd2; obtain ⟨-, h1e2⟩ := kPr_op hKe2
    refine wp_region_lit ?_
    apply seq_op (V := .pointer (some ⟨b_p2, k_p2 * 2, none⟩)) rfl
    · exact fun _ h => O_mv rfl rfl h
    (try simp only [PT])
    apply seq_op (V := .pointer (some ⟨b_p2, k_p2 * 2, none⟩)) rfl
    · exact fun _ h => O_nil rfl rfl h
    (try simp only [PT])
    apply seq_op (V := .pointer (some ⟨b_p2, k_p2 * 2, none⟩)) rfl
    · exact fun _ h => O_fld rfl Tryd.underlying137 rfl (Tryd.sizeOf4 _) rfl h
    (try simp only [PT])
    apply seq_op (V := .bool u2.gone) rfl
    · intro Φ hΦ; refine G_ownget (d := kPr) (f := 0) 1 _ _ rfl (Tryd.isAgg4 _) rfl rfl H rfl gd2 (fun cs h => by obtain ⟨rfl, _⟩ := kPr_op h; rfl) ?_; exact hΦ
    (try simp only [PT])
    apply seq_op (V := .bool u2.gone) rfl
    · exact fun _ h => O_mv rfl rfl h
    (try simp only [PT])
    refine seq_opg (c := (!u2.gone)) (V := .pointer (some ⟨b_p2, k_p2 * 2, none⟩)) (by first | exact wanted_f rfl rfl rfl | exact wanted_vf rfl rfl rfl) ?_ ?_
    · intro hc Φ hΦ; refine O_mv rfl rfl ?_; exact hΦ
    (try simp only [PT])
    refine seq_opg (c := (!u2.gone)) (V := .pointer (some ⟨b_p2, k_p2 * 2, none⟩)) (by first | exact wanted_f rfl rfl rfl | exact wanted_vf rfl rfl rfl) ?_ ?_
    · intro hc Φ hΦ; (repeat (first | rw [vg_of hc] | rw [vg_of (and_l hc)] | rw [vg_of (and_l (and_l hc))] | rw [vg_of (and_l (and_l (and_l hc)))] | rw [vg_and hc])); refine O_nil rfl rfl ?_; exact hΦ
    (try simp only [PT])
    refine seq_opg (c := (!u2.gone)) (V := .pointer (some ⟨b_p2, k_p2 * 2 + 1, none⟩)) (by first | exact wanted_f rfl rfl rfl | exact wanted_vf rfl rfl rfl) ?_ ?_
    · intro hc Φ hΦ; (repeat (first | rw [vg_of hc] | rw [vg_of (and_l hc)] | rw [vg_of (and_l (and_l hc))] | rw [vg_of (and_l (and_l (and_l hc)))] | rw [vg_and hc])); refine O_fld rfl Tryd.underlying137 rfl (Tryd.sizeOf3 _) rfl ?_; exact hΦ
    (try simp only [PT])
    refine seq_opg (c := (!u2.gone)) (V := .int .i64 u2.open_) (by first | exact wanted_f rfl rfl rfl | exact wanted_vf rfl rfl rfl) ?_ ?_
    · intro hc Φ hΦ; (repeat (first | rw [vg_of hc] | rw [vg_of (and_l hc)] | rw [vg_of (and_l (and_l hc))] | rw [vg_of (and_l (and_l (and_l hc)))] | rw [vg_and hc])); refine G_ownget (d := kPr) (f := 1) 1 _ _ rfl (Tryd.isAgg3 _) rfl rfl H rfl gd2 (fun cs h => by obtain ⟨rfl, _⟩ := kPr_op h; rfl) ?_; exact hΦ
    (try simp only [PT])
    refine seq_opg (c := (!u2.gone)) (V := .bool (decide (u2.open_ ≥ 0))) (by first | exact wanted_f rfl rfl rfl | exact wanted_vf rfl rfl rfl) ?_ ?_
    · intro hc Φ hΦ; (repeat (first | rw [vg_of hc] | rw [vg_of (and_l hc)] | rw [vg_of (and_l (and_l hc))] | rw [vg_of (and_l (and_l (and_l hc)))] | rw [vg_and hc])); refine O_bin rfl rfl rfl eqg_int r_geq ?_; exact hΦ
    (try simp only [PT])
    apply seq_op (V := .bool (u2.gone || (decide (u2.open_ ≥ 0)))) rfl
    · exact fun _ h => G_or _ _ _ rfl rfl rfl rfl h
    (try simp only [PT])
    refine list_end ?_
    refine then_norm ?_
    refine wp_cond_split rfl (fun hc => ?_) (fun hc => ?_)
    · have hc2 := hc
      clear hc
      replace hm := ifT hc2 hm
      refine wp_seq ?_
      refine wp_region_lit ?_
      apply seq_op (V := .int .i64 30) rfl
      · exact fun _ h => O_as rfl rfl h
      (try simp only [PT])
      refine list_end ?_
      refine then_norm ?_
      refine wp_ret ?_
      refine then_ret ?_
      refine then_ret ?_
      have hm := Option.some.inj hm
      subst hm
      replace H := H.front 1 rfl; simp only [List.eraseIdx_cons_succ, List.eraseIdx_cons_zero] at H
      replace H := H.dropAt 1 rfl; simp only [List.eraseIdx_cons_succ, List.eraseIdx_cons_zero] at H
      exact ret1 rfl (rv_tmp rfl) rfl ⟨rfl, H⟩
    · have hc2 := hc
      clear hc
      replace hm := ifF hc2 hm
      refine wp_skip ?_
      refine then_norm ?_
      refine wp_seq ?_
      refine wp_seq ?_
      refine wp_region_lit ?_
      apply seq_op (V := .pointer (some ⟨b7, 2, none⟩)) rfl
      · exact fun _ h => O_fld rfl Tryd.underlying73 rfl (Tryd.sizeOf71 _) rfl h
      (try simp only [PT])
      apply seq_op (V := .slice A2e1 u1.ops.length c2e1) rfl
      · exact fun _ h => L_1 0 _ _ rfl (Tryd.isAgg71 _) rfl H rfl rfl h
      (try simp only [PT])
      refine seq_call rfl (fun Φ hΦ => by refine O_call2 rfl Tryd.func126 rfl rfl rfl rfl hΦ) (assayerref03_filled_w (a0 := u1.ops) (h_p0 := h2e1) (a1 := false) (H := H)) ?_
      clear H
      rintro e w1 ⟨rfl, H⟩; refine ⟨_, rfl, ?_⟩
      (try simp only [PT])
      apply seq_op (V := .bool (!(assayerref03_filled_f u1.ops false))) rfl
      · exact fun _ h => O_not rfl rfl h
      (try simp only [PT])
      refine list_end ?_
      refine then_norm ?_
      refine wp_cond_split rfl (fun hc => ?_) (fun hc => ?_)
      · have hc3 := hc
        clear hc
        replace hm := ifT hc3 hm
        refine wp_seq ?_
        refine wp_region_lit ?_
        apply seq_op (V := .int .i64 32) rfl
        · exact fun _ h => O_as rfl rfl h
        (try simp only [PT])
        refine list_end ?_
        refine then_norm ?_
        refine wp_ret ?_
        refine then_ret ?_
        refine then_ret ?_
        have hm := Option.some.inj hm
        subst hm
        replace H := H.front 1 rfl; simp only [List.eraseIdx_cons_succ, List.eraseIdx_cons_zero] at H
        replace H := H.dropAt 1 rfl; simp only [List.eraseIdx_cons_succ, List.eraseIdx_cons_zero] at H
        exact ret1 rfl (rv_tmp rfl) rfl ⟨rfl, H⟩
      · have hc3 := hc
        clear hc
        replace hm := ifF hc3 hm
        refine wp_skip ?_
        refine then_norm ?_
        refine wp_seq ?_
        refine wp_region_lit ?_
        apply seq_op (V := .pointer (some ⟨b_p2, k_p2 * 2, none⟩)) rfl
        · exact fun _ h => O_mv rfl rfl h
        (try simp only [PT])
        apply seq_op (V := .int .i64 a1) rfl
        · exact fun _ h => O_mv rfl rfl h
        (try simp only [PT])
        apply seq_op (V := .pointer (some ⟨b_p2, k_p2 * 2, none⟩)) rfl
        · exact fun _ h => O_nil rfl rfl h
        (try simp only [PT])
        apply seq_op (V := .pointer (some ⟨b_p2, k_p2 * 2 + 1, none⟩)) rfl
        · exact fun _ h => O_fld rfl Tryd.underlying137 rfl (Tryd.sizeOf3 _) rfl h
        (try simp only [PT])
        refine OpG.list rfl ?_; refine G_ownsetF (d := kPr) 1 _ _ _ rfl (Tryd.sizeOf3 _) (f := 1) (v := .int .i64 a1) (x' := (⟨u2.gone, a1⟩ : Prc)) rfl rfl (by decide) rfl H rfl gk2 gd2 rfl (fun cs h => by obtain ⟨rfl, -⟩ := kPr_op h; exact kPr_mk' (s := s) (x := (⟨u2.gone, a1⟩ : Prc)) hr_p1) ?_; clear H; intro w1 H; simp only [List.set_cons_succ, List.set_cons_zero] at H
        (try simp only [PT])
        obtain ⟨gd3, gl3⟩ := setI_drop (x := (⟨u2.gone, a1⟩ : Prc)) gk2 gl2
        refine list_end ?_
        refine then_norm ?_
        refine wp_seq ?_
        refine wp_region_lit ?_
        apply seq_op (V := .int .i64 0) rfl
        · exact fun _ h => O_as rfl rfl h
        (try simp only [PT])
        refine list_end ?_
        refine then_norm ?_
        refine wp_ret ?_
        refine then_ret ?_
        have hm := Option.some.inj hm
        subst hm
        replace H := H.front 1 rfl; simp only [List.eraseIdx_cons_succ, List.eraseIdx_cons_zero] at H
        replace H := H.dropAt 1 rfl; simp only [List.eraseIdx_cons_succ, List.eraseIdx_cons_zero] at H
        exact ret1 rfl (rv_tmp rfl) rfl ⟨rfl, H⟩
  · have hc1 := hc
    clear hc
    replace hm := ifF hc1 hm
    refine wp_skip ?_
    refine then_norm ?_
    refine wp_seq ?_
    refine wp_seq ?_
    obtain ⟨u3, gx3, hm⟩ := bs hm
    obtain ⟨kk3, gk3, gl4, gd4⟩ := rdI_some gx3
    obtain rfl : k_p2 = kk3 := by omega
    have gngl4 := Nat.lt_of_lt_of_eq gl4 (osl_len 1 H rfl).symm
    obtain ⟨cse3, hKe3⟩ := own_has 1 H rfl gd4; obtain ⟨-, h1e3⟩ := kPr_op hKe3
    refine wp_region_lit ?_
    apply seq_op (V := .pointer (some ⟨b_p2, k_p2 * 2, none⟩)) rfl
    · exact fun _ h => O_mv rfl rfl h
    (try simp only [PT])
    apply seq_op (V := .pointer (some ⟨b_p2, k_p2 * 2, none⟩)) rfl
    · exact fun _ h => O_nil rfl rfl h
    (try simp only [PT])
    apply seq_op (V := .pointer (some ⟨b_p2, k_p2 * 2 + 1, none⟩)) rfl
    · exact fun _ h => O_fld rfl Tryd.underlying137 rfl (Tryd.sizeOf3 _) rfl h
    (try simp only [PT])
    apply seq_op (V := .int .i64 u3.open_) rfl
    · intro Φ hΦ; refine G_ownget (d := kPr) (f := 1) 1 _ _ rfl (Tryd.isAgg3 _) rfl rfl H rfl gd4 (fun cs h => by obtain ⟨rfl, _⟩ := kPr_op h; rfl) ?_; exact hΦ
    (try simp only [PT])
    apply seq_op (V := .bool (decide (u3.open_ < 0))) rfl
    · exact fun _ h => O_bin rfl rfl rfl eqg_int r_lss h
    (try simp only [PT])
    refine list_end ?_
    refine then_norm ?_
    refine wp_cond_split rfl (fun hc => ?_) (fun hc => ?_)
    · have hc4 := hc
      clear hc
      replace hm := ifT hc4 hm
      refine wp_seq ?_
      refine wp_region_lit ?_
      apply seq_op (V := .int .i64 31) rfl
      · exact fun _ h => O_as rfl rfl h
      (try simp only [PT])
      refine list_end ?_
      refine then_norm ?_
      refine wp_ret ?_
      refine then_ret ?_
      have hm := Option.some.inj hm
      subst hm
      replace H := H.front 1 rfl; simp only [List.eraseIdx_cons_succ, List.eraseIdx_cons_zero] at H
      replace H := H.dropAt 1 rfl; simp only [List.eraseIdx_cons_succ, List.eraseIdx_cons_zero] at H
      exact ret1 rfl (rv_tmp rfl) rfl ⟨rfl, H⟩
    · have hc4 := hc
      clear hc
      replace hm := ifF hc4 hm
      refine wp_skip ?_
      refine then_norm ?_
      refine wp_seq ?_
      refine wp_seq ?_
      obtain ⟨u4, gx4, hm⟩ := bs hm
      obtain ⟨kk4, gk4, gl5, gd5⟩ := rdI_some gx4
      obtain ⟨A2e4, c2e4, hCe4, h0e4, h1e4, h2e4⟩ := kEv_el2 h_p0 gd5
      obtain ⟨u5, gx5, hm⟩ := bs hm
      refine wp_draw_obO (k := 21) (sz := 69) (List.replicate 21 21) (fun _ => []) mixed (by simp) rfl (by kernel_rfl) (by kernel_rfl) (by kernel_rfl) H (by simp only [List.take_succ_cons, List.take_zero]; exact rfl) (by simp only [List.drop_succ_cons, List.drop_zero]; exact rfl)
        (fun y => by simp only [ov, Act.put, List.setIfInBounds_toArray, List.set_cons_succ, List.set_cons_zero, Nat.zero_add, Nat.reduceAdd]; exact rfl) ?_
      apply ObO.valw (V := .slice (some ⟨be1, oe1, none⟩) a0.length c_p0)
      · intro x; rfl
      · intro s' w' y Φ R hs H hG hΦ; refine wantG rfl ?_; refine O_mv rfl rfl ?_; exact hΦ _ _ (Sub.refl _) H
      apply ObO.valw (V := .pointer (some ⟨b_p2, k_p2 * 2, none⟩))
      · intro x; rfl
      · intro s' w' y Φ R hs H hG hΦ; refine wantG rfl ?_; refine O_mv rfl rfl ?_; exact hΦ _ _ (Sub.refl _) H
      apply ObO.valw (V := .pointer (some ⟨b_p2, k_p2 * 2, none⟩))
      · intro x; rfl
      · intro s' w' y Φ R hs H hG hΦ; simp only [List.nil_append, List.cons_append] at hG; have e1 : y 1 = _ := dh_get hG 1 rfl (by kernel_rfl); simp only [e1]; refine wantG rfl ?_; refine O_nil rfl rfl ?_; exact hΦ _ _ (Sub.refl _) H
      apply ObO.valw (V := .pointer (some ⟨b_p2, k_p2 * 2 + 1, none⟩))
      · intro x; rfl
      · intro s' w' y Φ R hs H hG hΦ; simp only [List.nil_append, List.cons_append] at hG; have e2 : y 2 = _ := dh_get hG 2 rfl (by kernel_rfl); simp only [e2]; refine wantG rfl ?_; refine O_fld rfl Tryd.underlying137 rfl (Tryd.sizeOf3 _) rfl ?_; exact hΦ _ _ (Sub.refl _) H
      apply ObO.valw (V := .int .i64 u3.open_)
      · intro x; rfl
      · intro s' w' y Φ R hs H hG hΦ; simp only [List.nil_append, List.cons_append] at hG; have e3 : y 3 = _ := dh_get hG 3 rfl (by kernel_rfl); simp only [e3]; refine wantG rfl ?_; refine G_ownget (d := kPr) (f := 1) 1 _ _ rfl (Tryd.isAgg3 _) rfl rfl H rfl gd4 (fun cs h => by obtain ⟨rfl, _⟩ := kPr_op h; rfl) ?_; exact hΦ _ _ (Sub.refl _) H
      apply ObO.valw (V := .pointer (some ⟨be1, oe1 + kk4 * 3, none⟩))
      · intro x; rfl
      · intro s' w' y Φ R hs H hG hΦ; simp only [List.nil_append, List.cons_append] at hG; have e0 : y 0 = _ := dh_get hG 0 rfl (by kernel_rfl); have e4 : y 4 = _ := dh_get hG 4 rfl (by kernel_rfl); simp only [e0, e4]; refine wantG rfl ?_; refine O_ix rfl Tryd.underlying55 (Tryd.sizeOf73 _) rfl rfl gk4 gl5 ?_; exact hΦ _ _ (Sub.refl _) H
      apply ObO.valw (V := .pointer (some ⟨be1, oe1 + kk4 * 3 + 2, none⟩))
      · intro x; rfl
      · intro s' w' y Φ R hs H hG hΦ; simp only [List.nil_append, List.cons_append] at hG; have e5 : y 5 = _ := dh_get hG 5 rfl (by kernel_rfl); simp only [e5]; refine wantG rfl ?_; refine O_fld rfl Tryd.underlying73 rfl (Tryd.sizeOf71 _) rfl ?_; exact hΦ _ _ (Sub.refl _) H
      apply ObO.valw (V := .slice A2e4 u4.ops.length c2e4)
      · intro x; rfl
      · intro s' w' y Φ R hs H hG hΦ; simp only [List.nil_append, List.cons_append] at hG; have e6 : y 6 = _ := dh_get hG 6 rfl (by kernel_rfl); simp only [e6]; refine wantG rfl ?_; refine G_s1 _ _ rfl (Tryd.isAgg71 _) rfl H (hCe4.mono hs) 2 rfl rfl ?_; exact hΦ _ _ (Sub.refl _) H
      apply ObO.valw (V := .pointer (some ⟨b7, 2, none⟩))
      · intro x; rfl
      · intro s' w' y Φ R hs H hG hΦ; refine wantG rfl ?_; refine O_fld rfl Tryd.underlying73 rfl (Tryd.sizeOf71 _) rfl ?_; exact hΦ _ _ (Sub.refl _) H
      apply ObO.valw (V := .slice A2e1 u1.ops.length c2e1)
      · intro x; rfl
      · intro s' w' y Φ R hs H hG hΦ; simp only [List.nil_append, List.cons_append] at hG; have e8 : y 8 = _ := dh_get hG 8 rfl (by kernel_rfl); simp only [e8]; refine wantG rfl ?_; refine L_1 0 _ _ rfl (Tryd.isAgg71 _) rfl H rfl rfl ?_; exact hΦ _ _ (Sub.refl _) H
      apply ObO.valw (V := .bool u5)
      · intro x; rfl
      · intro s' w' y Φ R hs H hG hΦ; simp only [List.nil_append, List.cons_append] at hG; have e7 : y 7 = _ := dh_get hG 7 rfl (by kernel_rfl); have e9 : y 9 = _ := dh_get hG 9 rfl (by kernel_rfl); simp only [e7, e9]; refine wantG rfl ?_; refine O_call2 rfl Tryd.func127 rfl rfl rfl rfl ?_; refine (assayerref03_completes_w (a0 := u4.ops) (h_p0 := (h2e4.mono hs)) (a1 := u1.ops) (h_p1 := (h2e1.mono hs)) (hm := gx5) (H := H)).mono ?_; rintro e w2 ⟨rfl, H⟩; exact ⟨_, rfl, hΦ _ _ (Sub.refl _) H⟩
      apply ObO.valw (V := .bool (!u5))
      · intro x; rfl
      · intro s' w' y Φ R hs H hG hΦ; simp only [List.nil_append, List.cons_append] at hG; have e10 : y 10 = _ := dh_get hG 10 rfl (by kernel_rfl); simp only [e10]; refine wantG rfl ?_; refine O_not rfl rfl ?_; exact hΦ _ _ (Sub.refl _) H
      apply ObO.valw (V := .bool (!u5))
      · intro x; rfl
      · intro s' w' y Φ R hs H hG hΦ; simp only [List.nil_append, List.cons_append] at hG; have e11 : y 11 = _ := dh_get hG 11 rfl (by kernel_rfl); simp only [e11]; refine wantG rfl ?_; refine O_mv rfl rfl ?_; exact hΦ _ _ (Sub.refl _) H
      apply ObO.valg (V := .pointer (some ⟨b7, 2, none⟩)) (c := !(!u5))
      · intro x; rfl
      · intro s' y hG; simp only [List.nil_append, List.cons_append] at hG; have eg : y 12 = _ := dh_get hG 12 rfl (by kernel_rfl); simp only [eg]; first | exact wanted_f rfl rfl rfl | exact wanted_vf rfl rfl rfl
      · intro hc s' w' y Φ R hs H hG hΦ; refine O_fld rfl Tryd.underlying73 rfl (Tryd.sizeOf71 _) rfl ?_; exact hΦ _ _ (Sub.refl _) H
      apply ObO.valg (V := .slice A2e1 u1.ops.length c2e1) (c := !(!u5))
      · intro x; rfl
      · intro s' y hG; simp only [List.nil_append, List.cons_append] at hG; have eg : y 12 = _ := dh_get hG 12 rfl (by kernel_rfl); simp only [eg]; first | exact wanted_f rfl rfl rfl | exact wanted_vf rfl rfl rfl
      · intro hc s' w' y Φ R hs H hG hΦ; simp only [List.nil_append, List.cons_append] at hG; have e13 : y 13 = _ := dh_get hG 13 rfl (by kernel_rfl); (first | rw [vg_of hc] at e13 | rw [vg_of (and_l hc)] at e13 | rw [vg_of (and_l (and_l hc))] at e13 | rw [vg_of (and_l (and_l (and_l hc)))] at e13 | rw [vg_and hc] at e13 | skip); simp only [e13]; refine L_1 0 _ _ rfl (Tryd.isAgg71 _) rfl H rfl rfl ?_; exact hΦ _ _ (Sub.refl _) H
      apply ObO.valg (V := .pointer (some ⟨b7, 0, none⟩)) (c := !(!u5))
      · intro x; rfl
      · intro s' y hG; simp only [List.nil_append, List.cons_append] at hG; have eg : y 12 = _ := dh_get hG 12 rfl (by kernel_rfl); simp only [eg]; first | exact wanted_f rfl rfl rfl | exact wanted_vf rfl rfl rfl
      · intro hc s' w' y Φ R hs H hG hΦ; refine O_fld rfl Tryd.underlying73 rfl (Tryd.sizeOf3 _) rfl ?_; exact hΦ _ _ (Sub.refl _) H
      apply ObO.valg (V := .int .i64 u1.kind) (c := !(!u5))
      · intro x; rfl
      · intro s' y hG; simp only [List.nil_append, List.cons_append] at hG; have eg : y 12 = _ := dh_get hG 12 rfl (by kernel_rfl); simp only [eg]; first | exact wanted_f rfl rfl rfl | exact wanted_vf rfl rfl rfl
      · intro hc s' w' y Φ R hs H hG hΦ; simp only [List.nil_append, List.cons_append] at hG; have e15 : y 15 = _ := dh_get hG 15 rfl (by kernel_rfl); (first | rw [vg_of hc] at e15 | rw [vg_of (and_l hc)] at e15 | rw [vg_of (and_l (and_l hc))] at e15 | rw [vg_of (and_l (and_l (and_l hc)))] at e15 | rw [vg_and hc] at e15 | skip); simp only [e15]; refine L_1 0 _ _ rfl (Tryd.isAgg3 _) rfl H rfl rfl ?_; exact hΦ _ _ (Sub.refl _) H
      apply ObO.valg (V := .bool (u1.kind == 2)) (c := !(!u5))
      · intro x; rfl
      · intro s' y hG; simp only [List.nil_append, List.cons_append] at hG; have eg : y 12 = _ := dh_get hG 12 rfl (by kernel_rfl); simp only [eg]; first | exact wanted_f rfl rfl rfl | exact wanted_vf rfl rfl rfl
      · intro hc s' w' y Φ R hs H hG hΦ; simp only [List.nil_append, List.cons_append] at hG; have e16 : y 16 = _ := dh_get hG 16 rfl (by kernel_rfl); (first | rw [vg_of hc] at e16 | rw [vg_of (and_l hc)] at e16 | rw [vg_of (and_l (and_l hc))] at e16 | rw [vg_of (and_l (and_l (and_l hc)))] at e16 | rw [vg_and hc] at e16 | skip); simp only [e16]; refine O_bin rfl rfl rfl eqg_int r_eql ?_; exact hΦ _ _ (Sub.refl _) H
      apply ObO.valg (V := .bool (assayerref03_filled_f u1.ops (u1.kind == 2))) (c := !(!u5))
      · intro x; rfl
      · intro s' y hG; simp only [List.nil_append, List.cons_append] at hG; have eg : y 12 = _ := dh_get hG 12 rfl (by kernel_rfl); simp only [eg]; first | exact wanted_f rfl rfl rfl | exact wanted_vf rfl rfl rfl
      · intro hc s' w' y Φ R hs H hG hΦ; simp only [List.nil_append, List.cons_append] at hG; have e14 : y 14 = _ := dh_get hG 14 rfl (by kernel_rfl); have e17 : y 17 = _ := dh_get hG 17 rfl (by kernel_rfl); (first | rw [vg_of hc] at e14 | rw [vg_of (and_l hc)] at e14 | rw [vg_of (and_l (and_l hc))] at e14 | rw [vg_of (and_l (and_l (and_l hc)))] at e14 | rw [vg_and hc] at e14 | skip); (first | rw [vg_of hc] at e17 | rw [vg_of (and_l hc)] at e17 | rw [vg_of (and_l (and_l hc))] at e17 | rw [vg_of (and_l (and_l (and_l hc)))] at e17 | rw [vg_and hc] at e17 | skip); simp only [e14, e17]; refine O_call2 rfl Tryd.func126 rfl rfl rfl rfl ?_; refine (assayerref03_filled_w (a0 := u1.ops) (h_p0 := (h2e1.mono hs)) (a1 := u1.kind == 2) (H := H)).mono ?_; rintro e w2 ⟨rfl, H⟩; exact ⟨_, rfl, hΦ _ _ (Sub.refl _) H⟩
      apply ObO.valg (V := .bool (!(assayerref03_filled_f u1.ops (u1.kind == 2)))) (c := !(!u5))
      · intro x; rfl
      · intro s' y hG; simp only [List.nil_append, List.cons_append] at hG; have eg : y 12 = _ := dh_get hG 12 rfl (by kernel_rfl); simp only [eg]; first | exact wanted_f rfl rfl rfl | exact wanted_vf rfl rfl rfl
      · intro hc s' w' y Φ R hs H hG hΦ; simp only [List.nil_append, List.cons_append] at hG; have e18 : y 18 = _ := dh_get hG 18 rfl (by kernel_rfl); (first | rw [vg_of hc] at e18 | rw [vg_of (and_l hc)] at e18 | rw [vg_of (and_l (and_l hc))] at e18 | rw [vg_of (and_l (and_l (and_l hc)))] at e18 | rw [vg_and hc] at e18 | skip); simp only [e18]; refine O_not rfl rfl ?_; exact hΦ _ _ (Sub.refl _) H
      apply ObO.valw (V := .bool ((!u5) || (!(assayerref03_filled_f u1.ops (u1.kind == 2)))))
      · intro x; rfl
      · intro s' w' y Φ R hs H hG hΦ; simp only [List.nil_append, List.cons_append] at hG; have e12 : y 12 = _ := dh_get hG 12 rfl (by kernel_rfl); have e19 : y 19 = _ := dh_get hG 19 rfl (by kernel_rfl); simp only [e12, e19]; refine wantG rfl ?_; refine G_or _ _ _ rfl rfl rfl rfl ?_; exact hΦ _ _ (Sub.refl _) H
      clear H
      intro s3 w3 yy hs3 H hG
      replace H := (show Holds _ _ ([] ++ _) _ from H); rw [List.nil_append] at H
      simp only [List.nil_append, List.cons_append] at hG
      have e0 : yy 0 = _ := gh_get hG 0 rfl
      have e1 : yy 1 = _ := gh_get hG 1 rfl
      have e2 : yy 2 = _ := gh_get hG 2 rfl
      have e3 : yy 3 = _ := gh_get hG 3 rfl
      have e4 : yy 4 = _ := gh_get hG 4 rfl
      have e5 : yy 5 = _ := gh_get hG 5 rfl
      have e6 : yy 6 = _ := gh_get hG 6 rfl
      have e7 : yy 7 = _ := gh_get hG 7 rfl
      have e8 : yy 8 = _ := gh_get hG 8 rfl
      have e9 : yy 9 = _ := gh_get hG 9 rfl
      have e10 : yy 10 = _ := gh_get hG 10 rfl
      have e11 : yy 11 = _ := gh_get hG 11 rfl
      have e12 : yy 12 = _ := gh_get hG 12 rfl
      have e13 : yy 13 = _ := gh_get hG 13 rfl
      have e14 : yy 14 = _ := gh_get hG 14 rfl
      have e15 : yy 15 = _ := gh_get hG 15 rfl
      have e16 : yy 16 = _ := gh_get hG 16 rfl
      have e17 : yy 17 = _ := gh_get hG 17 rfl
      have e18 : yy 18 = _ := gh_get hG 18 rfl
      have e19 : yy 19 = _ := gh_get hG 19 rfl
      have e20 : yy 20 = _ := gh_get hG 20 rfl
      simp only [e0, e1, e2, e3, e4, e5, e6, e7, e8, e9, e10, e11, e12, e13, e14, e15, e16, e17, e18, e19, e20]
      clear hG e0 e1 e2 e3 e4 e5 e6 e7 e8 e9 e10 e11 e12 e13 e14 e15 e16 e17 e18 e19 e20
      replace H := H.forget hs3; clear hs3
      refine list_end ?_
      refine then_norm ?_
      refine wp_cond_split rfl (fun hc => ?_) (fun hc => ?_)
      · have hc5 := hc
        clear hc
        replace hm := ifT hc5 hm
        refine wp_seq ?_
        refine wp_region_lit ?_
        apply seq_op (V := .int .i64 32) rfl
        · exact fun _ h => O_as rfl rfl h
        (try simp only [PT])
        refine list_end ?_
        refine then_norm ?_
        refine wp_ret ?_
        refine then_ret ?_
        have hm := Option.some.inj hm
        subst hm
        replace H := H.front 1 rfl; simp only [List.eraseIdx_cons_succ, List.eraseIdx_cons_zero] at H
        replace H := H.dropAt 1 rfl; simp only [List.eraseIdx_cons_succ, List.eraseIdx_cons_zero] at H
        exact ret1 rfl (rv_tmp rfl) rfl ⟨rfl, H⟩
      · have hc5 := hc
        clear hc
        replace hm := ifF hc5 hm
        refine wp_skip ?_
        refine then_norm ?_
        refine wp_seq ?_
        refine wp_region_lit ?_
        apply seq_op (V := .pointer (some ⟨b_p2, k_p2 * 2, none⟩)) rfl
        · exact fun _ h => O_mv rfl rfl h
        (try simp only [PT])
        apply seq_op (V := .pointer (some ⟨b_p2, k_p2 * 2, none⟩)) rfl
        · exact fun _ h => O_nil rfl rfl h
        (try simp only [PT])
        apply seq_op (V := .pointer (some ⟨b_p2, k_p2 * 2 + 1, none⟩)) rfl
        · exact fun _ h => O_fld rfl Tryd.underlying137 rfl (Tryd.sizeOf3 _) rfl h
        (try simp only [PT])
        refine OpG.list rfl ?_; refine G_ownsetF (d := kPr) 1 _ _ _ rfl (Tryd.sizeOf3 _) (f := 1) (v := .int .i64 (-1)) (x' := (⟨u3.gone, (-1)⟩ : Prc)) rfl rfl (by decide) rfl H rfl gk3 gd4 rfl (fun cs h => by obtain ⟨rfl, -⟩ := kPr_op h; exact kPr_mk' (s := s) (x := (⟨u3.gone, (-1)⟩ : Prc)) (by constructor <;> decide : Kin.inI64 (-1))) ?_; clear H; intro w1 H; simp only [List.set_cons_succ, List.set_cons_zero] at H
        (try simp only [PT])
        obtain ⟨gd6, gl6⟩ := setI_drop (x := (⟨u3.gone, (-1)⟩ : Prc)) gk3 gl4
        refine list_end ?_
        refine then_norm ?_
        refine wp_seq ?_
        refine wp_region_lit ?_
        apply seq_op (V := .pointer (some ⟨b_p2, k_p2 * 2, none⟩)) rfl
        · exact fun _ h => O_mv rfl rfl h
        (try simp only [PT])
        apply seq_op (V := .pointer (some ⟨b7, 0, none⟩)) rfl
        · exact fun _ h => O_fld rfl Tryd.underlying73 rfl (Tryd.sizeOf3 _) rfl h
        (try simp only [PT])
        apply seq_op (V := .int .i64 u1.kind) rfl
        · exact fun _ h => L_1 0 _ _ rfl (Tryd.isAgg3 _) rfl H rfl rfl h
        (try simp only [PT])
        apply seq_op (V := .bool (u1.kind == 4)) rfl
        · exact fun _ h => O_bin rfl rfl rfl eqg_int r_eql h
        (try simp only [PT])
        apply seq_op (V := .pointer (some ⟨b_p2, k_p2 * 2, none⟩)) rfl
        · exact fun _ h => O_nil rfl rfl h
        (try simp only [PT])
        apply seq_op (V := .pointer (some ⟨b_p2, k_p2 * 2, none⟩)) rfl
        · exact fun _ h => O_fld rfl Tryd.underlying137 rfl (Tryd.sizeOf4 _) rfl h
        (try simp only [PT])
        refine OpG.list rfl ?_; refine G_ownsetF (d := kPr) 1 _ _ _ rfl (Tryd.sizeOf4 _) (f := 0) (v := .bool (u1.kind == 4)) (x' := (⟨u1.kind == 4, ((⟨u3.gone, (-1)⟩ : Prc)).open_⟩ : Prc)) rfl rfl (by decide) rfl H rfl gk3 gd6 rfl (fun cs h => by obtain ⟨rfl, h1'⟩ := kPr_op h; exact kPr_mk' (s := s) (x := (⟨u1.kind == 4, ((⟨u3.gone, (-1)⟩ : Prc)).open_⟩ : Prc)) h1') ?_; clear H; intro w1 H; simp only [List.set_cons_succ, List.set_cons_zero] at H
        (try simp only [PT])
        obtain ⟨gd7, gl7⟩ := setI_drop (x := (⟨u1.kind == 4, ((⟨u3.gone, (-1)⟩ : Prc)).open_⟩ : Prc)) gk3 gl6
        refine list_end ?_
        refine then_norm ?_
        refine wp_seq ?_
        refine wp_region_lit ?_
        apply seq_op (V := .int .i64 0) rfl
        · exact fun _ h => O_as rfl rfl h
        (try simp only [PT])
        refine list_end ?_
        refine then_norm ?_
        refine wp_ret ?_
        have hm := Option.some.inj hm
        subst hm
        replace H := H.front 1 rfl; simp only [List.eraseIdx_cons_succ, List.eraseIdx_cons_zero] at H
        replace H := H.dropAt 1 rfl; simp only [List.eraseIdx_cons_succ, List.eraseIdx_cons_zero] at H
        exact ret1 rfl (rv_tmp rfl) rfl ⟨rfl, H⟩
def assayerref03_isList_f (a0 : Op') : Bool := ((a0.kind == 1) || (a0.kind == 2))

set_option maxHeartbeats 4000000 in
theorem assayerref03_isList_w {E : World} {s : SH} {L : List HP} {w : World} {a0 : Op'} {A_p0_list : Option Addr} {c_p0_list : Nat} (h_p0_list : kI.Sl s (.slice A_p0_list a0.list.length c_p0_list) a0.list) (H : Holds E s (L) w) :
    Calls Tryd.prog 128 #[.agg #[.int .i64 a0.kind, .string a0.key, .int .i64 a0.value, .slice A_p0_list a0.list.length c_p0_list, .bool a0.has, .bool a0.isNil]] w fun e w' => e = .returned (.bool (assayerref03_isList_f a0)) ∧ Holds E s (L) w' := by
  obtain ⟨R, hm⟩ : ∃ R, assayerref03_isList_f a0 = R := ⟨_, rfl⟩
  (try rw [hm])
  unfold assayerref03_isList_f at hm
  go_enter Tryd.func128, Tryd.ntmps128
  refine wp_seq ?_
  refine wp_region_lit ?_
  refine OpG.list rfl ?_; refine B_x 108 _ rfl (v := .agg #[.int .i64 a0.kind, .string a0.key, .int .i64 a0.value, .slice A_p0_list a0.list.length c_p0_list, .bool a0.has, .bool a0.isNil]) rfl H ?_; clear H; intro b1 w1 H; (try simp only [Value.cells] at H)
  (try simp only [PT])
  apply seq_op (V := .bool false) rfl
  · exact fun _ h => O_as rfl rfl h
  (try simp only [PT])
  refine list_end ?_
  refine then_norm ?_
  refine wp_seq ?_
  refine wp_region_lit ?_
  apply seq_op (V := .pointer (some ⟨b1, 0, none⟩)) rfl
  · exact fun _ h => O_fld rfl Tryd.underlying108 rfl (Tryd.sizeOf3 _) rfl h
  (try simp only [PT])
  apply seq_op (V := .int .i64 a0.kind) rfl
  · exact fun _ h => L_1 0 _ _ rfl (Tryd.isAgg3 _) rfl H rfl rfl h
  (try simp only [PT])
  apply seq_op (V := .bool (a0.kind == 1)) rfl
  · exact fun _ h => O_bin rfl rfl rfl eqg_int r_eql h
  (try simp only [PT])
  apply seq_op (V := .bool (a0.kind == 1)) rfl
  · exact fun _ h => O_mv rfl rfl h
  (try simp only [PT])
  refine seq_opg (c := (!(a0.kind == 1))) (V := .pointer (some ⟨b1, 0, none⟩)) (by first | exact wanted_f rfl rfl rfl | exact wanted_vf rfl rfl rfl) ?_ ?_
  · intro hc Φ hΦ; refine O_fld rfl Tryd.underlying108 rfl (Tryd.sizeOf3 _) rfl ?_; exact hΦ
  (try simp only [PT])
  refine seq_opg (c := (!(a0.kind == 1))) (V := .int .i64 a0.kind) (by first | exact wanted_f rfl rfl rfl | exact wanted_vf rfl rfl rfl) ?_ ?_
  · intro hc Φ hΦ; (repeat (first | rw [vg_of hc] | rw [vg_of (and_l hc)] | rw [vg_of (and_l (and_l hc))] | rw [vg_of (and_l (and_l (and_l hc)))] | rw [vg_and hc])); refine L_1 0 _ _ rfl (Tryd.isAgg3 _) rfl H rfl rfl ?_; exact hΦ
  (try simp only [PT])
  refine seq_opg (c := (!(a0.kind == 1))) (V := .bool (a0.kind == 2)) (by first | exact wanted_f rfl rfl rfl | exact wanted_vf rfl rfl rfl) ?_ ?_
  · intro hc Φ hΦ; (repeat (first | rw [vg_of hc] | rw [vg_of (and_l hc)] | rw [vg_of (and_l (and_l hc))] | rw [vg_of (and_l (and_l (and_l hc)))] | rw [vg_and hc])); refine O_bin rfl rfl rfl eqg_int r_eql ?_; exact hΦ
  (try simp only [PT])
  apply seq_op (V := .bool ((a0.kind == 1) || (a0.kind == 2))) rfl
  · exact fun _ h => G_or _ _ _ rfl rfl rfl rfl h
  (try simp only [PT])
  apply seq_op (V := .bool ((a0.kind == 1) || (a0.kind == 2))) rfl
  · exact fun _ h => O_as rfl rfl h
  (try simp only [PT])
  refine list_end ?_
  refine then_norm ?_
  refine wp_ret ?_
  subst hm
  replace H := H.dropAt 0 rfl; simp only [List.eraseIdx_cons_succ, List.eraseIdx_cons_zero] at H
  exact ret1 rfl (rv_tmp rfl) rfl ⟨rfl, H⟩
def assayerref03_Mixed_l9 (x3 : Op') : Nat → List Op' → (Bool ⊕ Unit)
  | k9, []  => .inr ()
  | k9, x9 :: r9 => if ((x9.key.toList == x3.key.toList) && (!((assayerref03_isList_f x9) == (assayerref03_isList_f x3)))) = true then (.inl true) else (assayerref03_Mixed_l9 x3 (k9 + 1) r9)

def assayerref03_Mixed_l6 (u2 : List (List Op')) (x3 : Op') : Nat → Nat → Option ((Bool ⊕ Unit))
  | k6, 0 => some (.inr ())
  | k6, r6 + 1 => (rdI u2 (k6 : Int)).bind fun u3 => letF (assayerref03_Mixed_l9 x3 0 u3) fun | .inl z9_r => (some (.inl z9_r)) | .inr () => (assayerref03_Mixed_l6 u2 x3 (k6 + 1) r6)

def assayerref03_Mixed_l3 (u2 : List (List Op')) : Nat → List Op' → Option ((Bool ⊕ Unit))
  | k3, []  => some (.inr ())
  | k3, x3 :: r3 => (assayerref03_Mixed_l6 u2 x3 0 ((u2.length : Int)).toNat).bind fun | .inl z6_r => (some (.inl z6_r)) | .inr () => (assayerref03_Mixed_l3 u2 (k3 + 1) r3)

def assayerref03_Mixed_f (a0 : List (List Op')) (a1 : List Op') : Option Bool := (appL 24 [] a0).bind fun u1 => (app 24 u1 a1).bind fun u2 => (assayerref03_Mixed_l3 u2 0 a1).bind fun | .inl z3_r => (some z3_r) | .inr () => (some false)

set_option maxHeartbeats 4000000 in
theorem assayerref03_Mixed_w {E : World} {s : SH} {L : List HP} {w : World} {a0 : List (List Op')} {a1 : List Op'} {A_p0 : Option Addr} {c_p0 : Nat} (h_p0 : kLOp.Sl s (.slice A_p0 a0.length c_p0) a0) {A_p1 : Option Addr} {c_p1 : Nat} (h_p1 : kOp.Sl s (.slice A_p1 a1.length c_p1) a1) {R : Bool} (hm : assayerref03_Mixed_f a0 a1 = some R) (H : Holds E s (L) w) :
    Calls Tryd.prog 80 #[.slice A_p0 a0.length c_p0, .slice A_p1 a1.length c_p1] w fun e w' => e = .returned (.bool R) ∧ Holds E s (L) w' := by
  unfold assayerref03_Mixed_f at hm
  go_enter Tryd.func80, Tryd.ntmps80
  refine wp_seq ?_
  refine wp_region_lit ?_
  apply seq_op (V := .bool false) rfl
  · exact fun _ h => O_as rfl rfl h
  (try simp only [PT])
  refine list_end ?_
  refine then_norm ?_
  refine wp_seq ?_
  obtain ⟨u1, gx1, hm⟩ := bs hm
  obtain ⟨hroomgx1, egx1⟩ := appL_some gx1
  obtain ⟨u2, gx2, hm⟩ := bs hm
  obtain ⟨hroomgx2, egx2⟩ := app_some gx2
  refine wp_region_lit ?_
  refine OpG.list rfl ?_; refine G_slice0 (d := kLOp.sh s) rfl Tryd.underlying138 Tryd.sizeOf71 H ?_; clear H; intro v1 w1 H; obtain ⟨Av1, cv1, rfl, -⟩ := H.len
  (try simp only [PT])
  apply seq_op (V := .slice A_p0 a0.length c_p0) rfl
  · exact fun _ h => O_mv rfl rfl h
  (try simp only [PT])
  refine OpG.list rfl ?_; refine G_appendS kLOp_at _ _ rfl H h_p0 rfl rfl hroomgx1 ?_; clear H; intro v2 w1 H; rw [← egx1] at H; obtain ⟨Av2, cv2, rfl, -⟩ := H.len
  (try simp only [PT])
  apply seq_op (V := .slice A_p1 a1.length c_p1) rfl
  · exact fun _ h => O_mv rfl rfl h
  (try simp only [PT])
  refine OpG.list rfl ?_; refine SL_1 rfl (v := .slice A_p1 a1.length c_p1) rfl Tryd.underlying138 Tryd.sizeOf71 Tryd.zeroValue71 rfl rfl (by decide) (by decide) H ?_; clear H; intro b16 w1 H; (try simp only [Value.cells] at H)
  (try simp only [PT])
  refine OpG.list rfl ?_; refine AP_1 (p := a1) 0 kLOp_at _ _ rfl (kLOp_mk' (s := s) (x := a1) h_p1) H rfl rfl rfl hroomgx2 ?_; clear H; intro v3 w1 H; (try simp only [List.set_cons_succ, List.set_cons_zero] at H)
  rw [← egx2] at H
  obtain ⟨Av3, cv3, rfl, -⟩ := (H.front 0 rfl).len
  (try simp only [PT])
  apply seq_op (V := .slice Av3 u2.length cv3) rfl
  · exact fun _ h => O_as rfl rfl h
  (try simp only [PT])
  refine list_end ?_
  refine then_norm ?_
  refine wp_seq ?_
  refine wp_seq ?_
  refine wp_region_lit ?_
  apply seq_op (V := .slice A_p1 a1.length c_p1) rfl
  · exact fun _ h => O_mv rfl rfl h
  (try simp only [PT])
  apply seq_op (V := .int .i64 (a1.length : Int)) rfl
  · exact fun _ h => O_len rfl Tryd.underlying71 rfl h
  (try simp only [PT])
  apply seq_op (V := .int .i64 0) rfl
  · exact fun _ h => O_mv rfl rfl h
  (try simp only [PT])
  refine list_end ?_
  refine then_norm ?_
  refine wp_block ?_
  obtain ⟨R3, hq3, hm⟩ := bs hm
  have hn3 := Nat.le_trans (len_le (d := kOp) h_p1 (by decide)) (by decide : (140737488355328 : Nat) ≤ 9223372036854775807)
  refine wp_loopF [none, none, none, none, some 4, none, none, some 7, none, some 9, none, some 11, none, none, none, none, none, none, none, none, some 20, some 21, some 22, some 23, some 24, some 25, some 26, some 27, some 28, some 29, some 30, some 31, some 32, some 33, some 34, some 35, some 36, some 37, some 38, some 39, some 40, some 41, some 42, some 43, some 44, some 45, some 46, some 47, some 48, some 49, some 50] rfl (by simp) (fun f w => ∃ (k3 : Nat) (r3 : List Op'), a1.drop k3 = r3 ∧ f 20 = .int .i64 (k3 : Int) ∧ assayerref03_Mixed_l3 u2 k3 r3 = some R3 ∧ Holds E s ((kLOp.sh s).Osl (.slice Av3 u2.length cv3) u2 :: L) w) (fun f w => a1.length - (intOf (f 20)).toNat) ?_ ?_
  · exact ⟨0, a1, rfl, rfl, hq3, H⟩
  · clear H
    intro f w hI
    obtain ⟨k3, r3, hd3, hf20, hq3', H⟩ := hI
    clear hq3; have hq3 := hq3'; clear hq3'
    simp only [ovm, mixM]
    simp only [hf20]; clear hf20
    refine wp_seq ?_
    refine wp_region_lit ?_
    apply seq_op (V := .bool (decide ((k3 : Int) < (a1.length : Int)))) rfl
    · exact fun _ h => O_bin rfl rfl rfl eqg_int r_lss h
    (try simp only [PT])
    refine list_end ?_
    refine then_norm ?_
    refine wp_seq ?_
    refine wp_cond_split rfl (fun hc => ?_) (fun hc => ?_)
    · have hc1 := hc
      clear hc
      obtain ⟨x3, r3', rfl, hd3', hd3'', hl3⟩ := rng_t hd3 hc1
      rw [assayerref03_Mixed_l3] at hq3
      refine wp_skip ?_
      refine then_norm ?_
      refine wp_seq ?_
      refine wp_block ?_
      refine wp_seq ?_
      obtain ⟨be1, oe1, A3e1, c3e1, rfl, hCe1, h0e1, h1e1, h2e1, h3e1⟩ := kOp_el h_p1 hd3'
      refine wp_region_lit ?_
      apply seq_op (V := .pointer (some ⟨be1, oe1 + k3 * 6, none⟩)) rfl
      · exact fun _ h => O_ix rfl Tryd.underlying71 (Tryd.sizeOf108 _) rfl rfl rfl hl3 h
      (try simp only [PT])
      apply seq_op (V := .agg #[.int .i64 x3.kind, .string x3.key, .int .i64 x3.value, .slice A3e1 x3.list.length c3e1, .bool x3.has, .bool x3.isNil]) rfl
      · exact fun _ h => G_sN _ _ rfl (Tryd.isAgg108 _) rfl H hCe1 (Tryd.sizeOf108 _) h
      (try simp only [PT])
      refine OpG.list rfl ?_; refine G_alloc 108 rfl (Tryd.zeroValue108 _) H ?_; clear H; intro b7 w1 H; (try simp only [Value.cells] at H)
      (try simp only [PT])
      refine OpG.list rfl ?_; refine G_setNi 0 (c := [.int .i64 x3.kind, .string x3.key, .int .i64 x3.value, .slice A3e1 x3.list.length c3e1, .bool x3.has, .bool x3.isNil]) _ _ _ rfl (Tryd.sizeOf108 _) rfl rfl (by simp [Value.oneCell']) H rfl rfl ?_; clear H; intro w1 H; simp only [List.set_cons_succ, List.set_cons_zero] at H
      (try simp only [PT])
      refine list_end ?_
      refine then_norm ?_
      refine wp_seq ?_
      have gn1 : Kin.inI64 ((u2.length : Nat) : Int) := osl_i 1 H rfl (by decide : 0 < kLOp.by_)
      refine wp_region_lit ?_
      apply seq_op (V := .slice Av3 u2.length cv3) rfl
      · exact fun _ h => O_mv rfl rfl h
      (try simp only [PT])
      apply seq_op (V := .int .i64 (u2.length : Int)) rfl
      · exact fun _ h => O_len rfl Tryd.underlying138 rfl h
      (try simp only [PT])
      apply seq_op (V := .int .i64 0) rfl
      · exact fun _ h => O_mv rfl rfl h
      (try simp only [PT])
      refine list_end ?_
      refine then_norm ?_
      refine wp_block ?_
      obtain ⟨R6, hq6, hq3⟩ := bs hq3
      have hn6 := int_le gn1
      refine wp_loopF [none, none, none, none, some 4, none, none, none, none, some 9, none, some 11, none, none, none, none, none, none, none, none, none, none, none, none, none, none, some 26, some 27, some 28, some 29, some 30, some 31, some 32, some 33, some 34, some 35, some 36, some 37, some 38, some 39, some 40, some 41, some 42, some 43, some 44, some 45, some 46, some 47, some 48, some 49, none] rfl (by simp) (fun f w => ∃ (k6 : Nat) (r6 : Nat), k6 + r6 = ((u2.length : Int)).toNat ∧ f 26 = .int .i64 (k6 : Int) ∧ assayerref03_Mixed_l6 u2 x3 k6 r6 = some R6 ∧ Holds E s (pt b7 (.cells #[.int .i64 x3.kind, .string x3.key, .int .i64 x3.value, .slice A3e1 x3.list.length c3e1, .bool x3.has, .bool x3.isNil] 108 (0, 0)) :: (kLOp.sh s).Osl (.slice Av3 u2.length cv3) u2 :: L) w) (fun f w => ((u2.length : Int)).toNat - (intOf (f 26)).toNat) ?_ ?_
      · exact ⟨0, _, Nat.zero_add _, rfl, hq6, H⟩
      · clear H
        intro f w hI
        obtain ⟨k6, r6, hd6, hf26, hq6', H⟩ := hI
        clear hq6; have hq6 := hq6'; clear hq6'
        simp only [ovm, mixM]
        simp only [hf26]; clear hf26
        refine wp_seq ?_
        refine wp_region_lit ?_
        apply seq_op (V := .bool (decide ((k6 : Int) < (u2.length : Int)))) rfl
        · exact fun _ h => O_bin rfl rfl rfl eqg_int r_lss h
        (try simp only [PT])
        refine list_end ?_
        refine then_norm ?_
        refine wp_seq ?_
        refine wp_cond_split rfl (fun hc => ?_) (fun hc => ?_)
        · have hc2 := hc
          clear hc
          obtain ⟨r6', rfl, hl6, hd6''⟩ := irng_t hd6 hc2
          rw [assayerref03_Mixed_l6] at hq6
          refine wp_skip ?_
          refine then_norm ?_
          refine wp_seq ?_
          refine wp_block ?_
          refine wp_seq ?_
          obtain ⟨u3, gx3, hq6⟩ := bs hq6
          obtain ⟨kk1, gk1, gl1, gd1⟩ := rdI_some gx3
          obtain ⟨bokk1, rfl⟩ := own_addr 1 H rfl (fun e => by rw [e] at gl1; exact absurd gl1 (Nat.not_lt_zero _))
          refine wp_region_lit ?_
          apply seq_op (V := .pointer (some ⟨bokk1, kk1, none⟩)) rfl
          · exact fun _ h => O_ix0 rfl Tryd.underlying138 (Tryd.sizeOf71 _) rfl rfl gk1 gl1 h
          (try simp only [PT])
          refine OpG.list rfl ?_; refine G_owngetF (d := kLOp) (f := 0) 1 _ _ rfl (Tryd.isAgg71 _) rfl (Nat.mul_one _).symm (by decide) H rfl gd1 ?_; intro cs v hK hv; obtain ⟨A0o1, c0o1, rfl, h0o1⟩ := kLOp_op hK; obtain rfl := Option.some.inj hv
          (try simp only [PT])
          apply seq_op (V := .slice A0o1 u3.length c0o1) rfl
          · exact fun _ h => O_as rfl rfl h
          (try simp only [PT])
          refine list_end ?_
          refine then_norm ?_
          refine wp_seq ?_
          refine wp_region_lit ?_
          apply seq_op (V := .slice A0o1 u3.length c0o1) rfl
          · exact fun _ h => O_mv rfl rfl h
          (try simp only [PT])
          apply seq_op (V := .int .i64 (u3.length : Int)) rfl
          · exact fun _ h => O_len rfl Tryd.underlying71 rfl h
          (try simp only [PT])
          apply seq_op (V := .int .i64 0) rfl
          · exact fun _ h => O_mv rfl rfl h
          (try simp only [PT])
          refine list_end ?_
          refine then_norm ?_
          refine wp_block ?_
          obtain ⟨R9, hq9, hq6⟩ := lfe hq6
          have hn9 := Nat.le_trans (len_le (d := kOp) h0o1 (by decide)) (by decide : (140737488355328 : Nat) ≤ 9223372036854775807)
          refine wp_loopF [none, none, none, none, some 4, none, none, none, none, none, none, some 11, none, none, none, none, none, none, none, none, none, none, none, none, none, none, none, none, none, none, none, none, some 32, some 33, some 34, some 35, some 36, some 37, some 38, some 39, some 40, some 41, some 42, some 43, some 44, some 45, some 46, some 47, some 48, none, none] rfl (by simp) (fun f w => ∃ (k9 : Nat) (r9 : List Op'), u3.drop k9 = r9 ∧ f 32 = .int .i64 (k9 : Int) ∧ assayerref03_Mixed_l9 x3 k9 r9 = R9 ∧ Holds E s (pt b7 (.cells #[.int .i64 x3.kind, .string x3.key, .int .i64 x3.value, .slice A3e1 x3.list.length c3e1, .bool x3.has, .bool x3.isNil] 108 (0, 0)) :: (kLOp.sh s).Osl (.slice (some ⟨bokk1, 0, none⟩) u2.length cv3) u2 :: L) w) (fun f w => u3.length - (intOf (f 32)).toNat) ?_ ?_
          · exact ⟨0, u3, rfl, rfl, hq9, H⟩
          · clear H
            intro f w hI
            obtain ⟨k9, r9, hd9, hf32, hq9', H⟩ := hI
            clear hq9; have hq9 := hq9'; clear hq9'
            simp only [ovm, mixM]
            simp only [hf32]; clear hf32
            refine wp_seq ?_
            refine wp_region_lit ?_
            apply seq_op (V := .bool (decide ((k9 : Int) < (u3.length : Int)))) rfl
            · exact fun _ h => O_bin rfl rfl rfl eqg_int r_lss h
            (try simp only [PT])
            refine list_end ?_
            refine then_norm ?_
            refine wp_seq ?_
            refine wp_cond_split rfl (fun hc => ?_) (fun hc => ?_)
            · have hc3 := hc
              clear hc
              obtain ⟨x9, r9', rfl, hd9', hd9'', hl9⟩ := rng_t hd9 hc3
              rw [assayerref03_Mixed_l9] at hq9
              refine wp_skip ?_
              refine then_norm ?_
              refine wp_seq ?_
              refine wp_block ?_
              refine wp_seq ?_
              obtain ⟨be2, oe2, A3e2, c3e2, rfl, hCe2, h0e2, h1e2, h2e2, h3e2⟩ := kOp_el h0o1 hd9'
              refine wp_region_lit ?_
              apply seq_op (V := .pointer (some ⟨be2, oe2 + k9 * 6, none⟩)) rfl
              · exact fun _ h => O_ix rfl Tryd.underlying71 (Tryd.sizeOf108 _) rfl rfl rfl hl9 h
              (try simp only [PT])
              apply seq_op (V := .agg #[.int .i64 x9.kind, .string x9.key, .int .i64 x9.value, .slice A3e2 x9.list.length c3e2, .bool x9.has, .bool x9.isNil]) rfl
              · exact fun _ h => G_sN _ _ rfl (Tryd.isAgg108 _) rfl H hCe2 (Tryd.sizeOf108 _) h
              (try simp only [PT])
              refine OpG.list rfl ?_; refine G_alloc 108 rfl (Tryd.zeroValue108 _) H ?_; clear H; intro b11 w1 H; (try simp only [Value.cells] at H)
              (try simp only [PT])
              refine OpG.list rfl ?_; refine G_setNi 0 (c := [.int .i64 x9.kind, .string x9.key, .int .i64 x9.value, .slice A3e2 x9.list.length c3e2, .bool x9.has, .bool x9.isNil]) _ _ _ rfl (Tryd.sizeOf108 _) rfl rfl (by simp [Value.oneCell']) H rfl rfl ?_; clear H; intro w1 H; simp only [List.set_cons_succ, List.set_cons_zero] at H
              (try simp only [PT])
              refine list_end ?_
              refine then_norm ?_
              refine wp_seq ?_
              refine wp_draw_obO (k := 12) (sz := 51) (List.replicate 12 12) (fun _ => []) mixed (by simp) rfl (by kernel_rfl) (by kernel_rfl) (by kernel_rfl) H (by simp only [List.take_succ_cons, List.take_zero]; exact rfl) (by simp only [List.drop_succ_cons, List.drop_zero]; exact rfl)
                (fun y => by simp only [ov, Act.put, List.setIfInBounds_toArray, List.set_cons_succ, List.set_cons_zero, Nat.zero_add, Nat.reduceAdd]; exact rfl) ?_
              apply ObO.valw (V := .pointer (some ⟨b11, 1, none⟩))
              · intro x; rfl
              · intro s' w' y Φ R hs H hG hΦ; refine wantG rfl ?_; refine O_fld rfl Tryd.underlying108 rfl (Tryd.sizeOf9 _) rfl ?_; exact hΦ _ _ (Sub.refl _) H
              apply ObO.valw (V := .string x9.key)
              · intro x; rfl
              · intro s' w' y Φ R hs H hG hΦ; simp only [List.nil_append, List.cons_append] at hG; have e0 : y 0 = _ := dh_get hG 0 rfl (by kernel_rfl); simp only [e0]; refine wantG rfl ?_; refine L_1 0 _ _ rfl (Tryd.isAgg9 _) rfl H rfl rfl ?_; exact hΦ _ _ (Sub.refl _) H
              apply ObO.valw (V := .pointer (some ⟨b7, 1, none⟩))
              · intro x; rfl
              · intro s' w' y Φ R hs H hG hΦ; refine wantG rfl ?_; refine O_fld rfl Tryd.underlying108 rfl (Tryd.sizeOf9 _) rfl ?_; exact hΦ _ _ (Sub.refl _) H
              apply ObO.valw (V := .string x3.key)
              · intro x; rfl
              · intro s' w' y Φ R hs H hG hΦ; simp only [List.nil_append, List.cons_append] at hG; have e2 : y 2 = _ := dh_get hG 2 rfl (by kernel_rfl); simp only [e2]; refine wantG rfl ?_; refine L_1 1 _ _ rfl (Tryd.isAgg9 _) rfl H rfl rfl ?_; exact hΦ _ _ (Sub.refl _) H
              apply ObO.valw (V := .bool (x9.key.toList == x3.key.toList))
              · intro x; rfl
              · intro s' w' y Φ R hs H hG hΦ; simp only [List.nil_append, List.cons_append] at hG; have e1 : y 1 = _ := dh_get hG 1 rfl (by kernel_rfl); have e3 : y 3 = _ := dh_get hG 3 rfl (by kernel_rfl); simp only [e1, e3]; refine wantG rfl ?_; refine O_bin rfl rfl rfl eqg_str r_seq ?_; exact hΦ _ _ (Sub.refl _) H
              apply ObO.valw (V := .bool (x9.key.toList == x3.key.toList))
              · intro x; rfl
              · intro s' w' y Φ R hs H hG hΦ; simp only [List.nil_append, List.cons_append] at hG; have e4 : y 4 = _ := dh_get hG 4 rfl (by kernel_rfl); simp only [e4]; refine wantG rfl ?_; refine O_mv rfl rfl ?_; exact hΦ _ _ (Sub.refl _) H
              apply ObO.valg (V := .agg #[.int .i64 x9.kind, .string x9.key, .int .i64 x9.value, .slice A3e2 x9.list.length c3e2, .bool x9.has, .bool x9.isNil]) (c := x9.key.toList == x3.key.toList)
              · intro x; rfl
              · intro s' y hG; simp only [List.nil_append, List.cons_append] at hG; have eg : y 5 = _ := dh_get hG 5 rfl (by kernel_rfl); simp only [eg]; first | exact wanted_t rfl rfl rfl | exact wanted_vt rfl rfl rfl
              · intro hc s' w' y Φ R hs H hG hΦ; refine G_pNi 0 _ _ rfl (Tryd.isAgg108 _) rfl H rfl (Tryd.sizeOf108 _) ?_; exact hΦ _ _ (Sub.refl _) H
              apply ObO.valg (V := .bool (assayerref03_isList_f x9)) (c := x9.key.toList == x3.key.toList)
              · intro x; rfl
              · intro s' y hG; simp only [List.nil_append, List.cons_append] at hG; have eg : y 5 = _ := dh_get hG 5 rfl (by kernel_rfl); simp only [eg]; first | exact wanted_t rfl rfl rfl | exact wanted_vt rfl rfl rfl
              · intro hc s' w' y Φ R hs H hG hΦ; simp only [List.nil_append, List.cons_append] at hG; have e6 : y 6 = _ := dh_get hG 6 rfl (by kernel_rfl); (first | rw [vg_of hc] at e6 | rw [vg_of (and_l hc)] at e6 | rw [vg_of (and_l (and_l hc))] at e6 | rw [vg_of (and_l (and_l (and_l hc)))] at e6 | rw [vg_and hc] at e6 | skip); simp only [e6]; refine O_call1 rfl Tryd.func128 rfl rfl rfl ?_; refine (assayerref03_isList_w (a0 := x9) (h_p0_list := (h3e2.mono hs)) (H := H)).mono ?_; rintro e w2 ⟨rfl, H⟩; exact ⟨_, rfl, hΦ _ _ (Sub.refl _) H⟩
              apply ObO.valg (V := .agg #[.int .i64 x3.kind, .string x3.key, .int .i64 x3.value, .slice A3e1 x3.list.length c3e1, .bool x3.has, .bool x3.isNil]) (c := x9.key.toList == x3.key.toList)
              · intro x; rfl
              · intro s' y hG; simp only [List.nil_append, List.cons_append] at hG; have eg : y 5 = _ := dh_get hG 5 rfl (by kernel_rfl); simp only [eg]; first | exact wanted_t rfl rfl rfl | exact wanted_vt rfl rfl rfl
              · intro hc s' w' y Φ R hs H hG hΦ; refine G_pNi 1 _ _ rfl (Tryd.isAgg108 _) rfl H rfl (Tryd.sizeOf108 _) ?_; exact hΦ _ _ (Sub.refl _) H
              apply ObO.valg (V := .bool (assayerref03_isList_f x3)) (c := x9.key.toList == x3.key.toList)
              · intro x; rfl
              · intro s' y hG; simp only [List.nil_append, List.cons_append] at hG; have eg : y 5 = _ := dh_get hG 5 rfl (by kernel_rfl); simp only [eg]; first | exact wanted_t rfl rfl rfl | exact wanted_vt rfl rfl rfl
              · intro hc s' w' y Φ R hs H hG hΦ; simp only [List.nil_append, List.cons_append] at hG; have e8 : y 8 = _ := dh_get hG 8 rfl (by kernel_rfl); (first | rw [vg_of hc] at e8 | rw [vg_of (and_l hc)] at e8 | rw [vg_of (and_l (and_l hc))] at e8 | rw [vg_of (and_l (and_l (and_l hc)))] at e8 | rw [vg_and hc] at e8 | skip); simp only [e8]; refine O_call1 rfl Tryd.func128 rfl rfl rfl ?_; refine (assayerref03_isList_w (a0 := x3) (h_p0_list := (h3e1.mono hs)) (H := H)).mono ?_; rintro e w2 ⟨rfl, H⟩; exact ⟨_, rfl, hΦ _ _ (Sub.refl _) H⟩
              apply ObO.valg (V := .bool (!((assayerref03_isList_f x9) == (assayerref03_isList_f x3)))) (c := x9.key.toList == x3.key.toList)
              · intro x; rfl
              · intro s' y hG; simp only [List.nil_append, List.cons_append] at hG; have eg : y 5 = _ := dh_get hG 5 rfl (by kernel_rfl); simp only [eg]; first | exact wanted_t rfl rfl rfl | exact wanted_vt rfl rfl rfl
              · intro hc s' w' y Φ R hs H hG hΦ; simp only [List.nil_append, List.cons_append] at hG; have e7 : y 7 = _ := dh_get hG 7 rfl (by kernel_rfl); have e9 : y 9 = _ := dh_get hG 9 rfl (by kernel_rfl); (first | rw [vg_of hc] at e7 | rw [vg_of (and_l hc)] at e7 | rw [vg_of (and_l (and_l hc))] at e7 | rw [vg_of (and_l (and_l (and_l hc)))] at e7 | rw [vg_and hc] at e7 | skip); (first | rw [vg_of hc] at e9 | rw [vg_of (and_l hc)] at e9 | rw [vg_of (and_l (and_l hc))] at e9 | rw [vg_of (and_l (and_l (and_l hc)))] at e9 | rw [vg_and hc] at e9 | skip); simp only [e7, e9]; refine O_bin rfl rfl rfl eqg_bool (r_bne Tryd.underlying4) ?_; exact hΦ _ _ (Sub.refl _) H
              apply ObO.valw (V := .bool ((x9.key.toList == x3.key.toList) && (!((assayerref03_isList_f x9) == (assayerref03_isList_f x3)))))
              · intro x; rfl
              · intro s' w' y Φ R hs H hG hΦ; simp only [List.nil_append, List.cons_append] at hG; have e5 : y 5 = _ := dh_get hG 5 rfl (by kernel_rfl); have e10 : y 10 = _ := dh_get hG 10 rfl (by kernel_rfl); simp only [e5, e10]; refine wantG rfl ?_; refine G_and _ _ _ rfl rfl rfl rfl ?_; exact hΦ _ _ (Sub.refl _) H
              clear H
              intro s3 w3 yy hs3 H hG
              replace H := (show Holds _ _ ([] ++ _) _ from H); rw [List.nil_append] at H
              simp only [List.nil_append, List.cons_append] at hG
              have e0 : yy 0 = _ := gh_get hG 0 rfl
              have e1 : yy 1 = _ := gh_get hG 1 rfl
              have e2 : yy 2 = _ := gh_get hG 2 rfl
              have e3 : yy 3 = _ := gh_get hG 3 rfl
              have e4 : yy 4 = _ := gh_get hG 4 rfl
              have e5 : yy 5 = _ := gh_get hG 5 rfl
              have e6 : yy 6 = _ := gh_get hG 6 rfl
              have e7 : yy 7 = _ := gh_get hG 7 rfl
              have e8 : yy 8 = _ := gh_get hG 8 rfl
              have e9 : yy 9 = _ := gh_get hG 9 rfl
              have e10 : yy 10 = _ := gh_get hG 10 rfl
              have e11 : yy 11 = _ := gh_get hG 11 rfl
              simp only [e0, e1, e2, e3, e4, e5, e6, e7, e8, e9, e10, e11]
              clear hG e0 e1 e2 e3 e4 e5 e6 e7 e8 e9 e10 e11
              replace H := H.forget hs3; clear hs3
              refine list_end ?_
              refine then_norm ?_
              refine wp_cond_split rfl (fun hc => ?_) (fun hc => ?_)
              · have hc4 := hc
                clear hc
                replace hq9 := ifT hc4 hq9
                refine wp_seq ?_
                refine wp_region_lit ?_
                apply seq_op (V := .bool true) rfl
                · exact fun _ h => O_as rfl rfl h
                (try simp only [PT])
                refine list_end ?_
                refine then_norm ?_
                refine wp_ret ?_
                refine block_ret ?_
                refine then_ret ?_
                refine then_ret ?_
                refine block_ret ?_
                refine block_ret ?_
                refine then_ret ?_
                refine then_ret ?_
                refine block_ret ?_
                refine block_ret ?_
                refine then_ret ?_
                refine then_ret ?_
                refine block_ret ?_
                refine then_ret ?_
                subst hq9
                (try dsimp only at hq6)
                have hq6 := Option.some.inj hq6
                subst hq6
                (try dsimp only at hq3)
                have hq3 := Option.some.inj hq3
                subst hq3
                (try dsimp only at hm)
                have hm := Option.some.inj hm
                subst hm
                replace H := H.dropAt 2 rfl; simp only [List.eraseIdx_cons_succ, List.eraseIdx_cons_zero] at H
                replace H := H.dropAt 1 rfl; simp only [List.eraseIdx_cons_succ, List.eraseIdx_cons_zero] at H
                replace H := H.dropAt 0 rfl; simp only [List.eraseIdx_cons_succ, List.eraseIdx_cons_zero] at H
                exact ret1 rfl (rv_tmp rfl) rfl ⟨rfl, H⟩
              · have hc4 := hc
                clear hc
                replace hq9 := ifF hc4 hq9
                refine wp_skip ?_
                refine block_norm ?_
                refine then_norm ?_
                refine wp_region_lit ?_
                apply seq_op (V := .int .i64 (IntKind.i64.wrap ((k9 : Int) + 1))) rfl
                · exact fun _ h => O_bin rfl rfl rfl eqg_int r_add h
                (try simp only [PT])
                apply seq_op (V := .int .i64 (IntKind.i64.wrap ((k9 : Int) + 1))) rfl
                · exact fun _ h => O_mv rfl rfl h
                (try simp only [PT])
                refine list_end ?_
                refine then_norm ?_
                replace H := H.drop
                refine ⟨⟨⟨rfl, rfl, rfl, rfl, rfl, rfl, rfl, rfl, rfl, rfl, rfl, rfl, rfl, rfl, rfl, rfl, rfl, rfl, rfl, rfl, rfl, rfl, rfl, rfl, rfl, rfl, rfl, rfl, rfl, rfl, rfl, rfl, rfl⟩, rfl⟩, ⟨k9 + 1, _, hd9'', wrap_succ hl9 hn9, hq9, H⟩, ?_⟩
                exact meas_succ hl9 hn9
            · have hc3 := hc
              clear hc
              obtain rfl := rng_f hd9 hc3
              rw [assayerref03_Mixed_l9] at hq9
              refine wp_exit ?_
              refine then_exit ?_
              refine then_exit ?_
              subst hq9
              (try dsimp only at hq6)
              refine block_exit ?_
              refine block_norm ?_
              refine then_norm ?_
              refine wp_region_lit ?_
              apply seq_op (V := .int .i64 (IntKind.i64.wrap ((k6 : Int) + 1))) rfl
              · exact fun _ h => O_bin rfl rfl rfl eqg_int r_add h
              (try simp only [PT])
              apply seq_op (V := .int .i64 (IntKind.i64.wrap ((k6 : Int) + 1))) rfl
              · exact fun _ h => O_mv rfl rfl h
              (try simp only [PT])
              refine list_end ?_
              refine then_norm ?_
              refine ⟨⟨⟨rfl, rfl, rfl, rfl, rfl, rfl, rfl, rfl, rfl, rfl, rfl, rfl, rfl, rfl, rfl, rfl, rfl, rfl, rfl, rfl, rfl, rfl, rfl, rfl, rfl⟩, rfl⟩, ⟨k6 + 1, r6', hd6'', wrap_succ hl6 hn6, hq6, H⟩, ?_⟩
              exact meas_succ hl6 hn6
        · have hc2 := hc
          clear hc
          obtain rfl := irng_f hd6 hc2
          rw [assayerref03_Mixed_l6] at hq6
          refine wp_exit ?_
          refine then_exit ?_
          refine then_exit ?_
          have hq6 := Option.some.inj hq6
          subst hq6
          (try dsimp only at hq3)
          refine block_exit ?_
          refine block_norm ?_
          refine then_norm ?_
          refine wp_region_lit ?_
          apply seq_op (V := .int .i64 (IntKind.i64.wrap ((k3 : Int) + 1))) rfl
          · exact fun _ h => O_bin rfl rfl rfl eqg_int r_add h
          (try simp only [PT])
          apply seq_op (V := .int .i64 (IntKind.i64.wrap ((k3 : Int) + 1))) rfl
          · exact fun _ h => O_mv rfl rfl h
          (try simp only [PT])
          refine list_end ?_
          refine then_norm ?_
          replace H := H.drop
          refine ⟨⟨⟨rfl, rfl, rfl, rfl, rfl, rfl, rfl, rfl, rfl, rfl, rfl, rfl, rfl, rfl, rfl, rfl, rfl⟩, rfl⟩, ⟨k3 + 1, _, hd3'', wrap_succ hl3 hn3, hq3, H⟩, ?_⟩
          exact meas_succ hl3 hn3
    · have hc1 := hc
      clear hc
      obtain rfl := rng_f hd3 hc1
      rw [assayerref03_Mixed_l3] at hq3
      refine wp_exit ?_
      refine then_exit ?_
      refine then_exit ?_
      have hq3 := Option.some.inj hq3
      subst hq3
      (try dsimp only at hm)
      refine block_exit ?_
      refine then_norm ?_
      refine wp_seq ?_
      refine wp_region_lit ?_
      apply seq_op (V := .bool false) rfl
      · exact fun _ h => O_as rfl rfl h
      (try simp only [PT])
      refine list_end ?_
      refine then_norm ?_
      refine wp_ret ?_
      have hm := Option.some.inj hm
      subst hm
      replace H := H.dropAt 0 rfl; simp only [List.eraseIdx_cons_succ, List.eraseIdx_cons_zero] at H
      exact ret1 rfl (rv_tmp rfl) rfl ⟨rfl, H⟩
def assayerref03_Check_l5  : Nat → Nat → (List Prc) → Option (((List Prc)))
  | k5, 0, y5_p0 => some y5_p0
  | k5, r5 + 1, y5_p0 => (rdI y5_p0 (k5 : Int)).bind fun u2 => assayerref03_Check_l5 (k5 + 1) r5 (setI y5_p0 (k5 : Int) (⟨u2.gone, (-1)⟩ : Prc))

def assayerref03_Check_l11 (a0 : List Ev) : Nat → List Ev → (List (List Op')) → (List Prc) → Option (((Int × Int) ⊕ ((List (List Op')) × (List Prc))))
  | k11, [] , y11_6, y11_p1 => some (.inr (y11_6, y11_p1))
  | k11, x11 :: r11, y11_6, y11_p1 => (rdI y11_p1 x11.proc).bind fun u3 => (assayerref03_step_el2_f a0 (k11 : Int) y11_p1 x11.proc).bind fun u4 => if (u4.1 != 0) = true then (some (.inl ((k11 : Int), u4.1))) else ((assayerref03_Mixed_f y11_6 x11.ops).bind fun u5 => if u5 = true then (some (.inl ((k11 : Int), 33))) else ((app 24 y11_6 x11.ops).bind fun u6 => assayerref03_Check_l11 a0 (k11 + 1) r11 u6 u4.2))

def assayerref03_Check_f (fuel : Nat) (a0 : List Ev) : Option (Int × Int) := (assayerref02_Can_f fuel a0).bind fun u1 => if (!u1) = true then (some (0, 1)) else ((assayerref03_Check_l5 0 ((100 : Int)).toNat (List.replicate 100 (⟨false, 0⟩ : Prc))).bind fun z5_p0 => (assayerref03_Check_l11 a0 0 a0 [] z5_p0).bind fun | .inl z11_r => (some z11_r) | .inr (z11_p0, z11_p1) => (some (0, 0)))

set_option maxHeartbeats 4000000 in
theorem assayerref03_Check_w {E : World} {s : SH} {L : List HP} {w : World} {fuel : Nat} {a0 : List Ev} {A_p0 : Option Addr} {c_p0 : Nat} (h_p0 : kEv.Sl s (.slice A_p0 a0.length c_p0) a0) {R : Int × Int} (hm : assayerref03_Check_f fuel a0 = some R) (H : Holds E s (L) w) :
    Calls Tryd.prog 37 #[.slice A_p0 a0.length c_p0] w fun e w' => e = .returned (.tuple #[.int .i64 R.1, .int .i64 R.2]) ∧ Holds E s (L) w' := by
  unfold assayerref03_Check_f at hm
  go_enter Tryd.func37, Tryd.ntmps37
  refine wp_seq ?_
  refine wp_region_lit ?_
  apply seq_op (V := .int .i64 0) rfl
  · exact fun _ h => O_as rfl rfl h
  (try simp only [PT])
  apply seq_op (V := .int .i64 0) rfl
  · exact fun _ h => O_as rfl rfl h
  (try simp only [PT])
  refine list_end ?_
  refine then_norm ?_
  refine wp_seq ?_
  refine wp_seq ?_
  obtain ⟨u1, gx1, hm⟩ := bs hm
  refine wp_region_lit ?_
  apply seq_op (V := .slice A_p0 a0.length c_p0) rfl
  · exact fun _ h => O_mv rfl rfl h
  (try simp only [PT])
  refine seq_call rfl (fun Φ hΦ => by refine O_call1 rfl Tryd.func78 rfl rfl rfl hΦ) (assayerref02_Can_w (fuel := fuel) (a0 := a0) (h_p0 := h_p0) (hm := gx1) (H := H)) ?_
  clear H
  rintro e w1 ⟨rfl, H⟩; refine ⟨_, rfl, ?_⟩
  (try simp only [PT])
  apply seq_op (V := .bool (!u1)) rfl
  · exact fun _ h => O_not rfl rfl h
  (try simp only [PT])
  refine list_end ?_
  refine then_norm ?_
  refine wp_cond_split rfl (fun hc => ?_) (fun hc => ?_)
  · have hc1 := hc
    clear hc
    replace hm := ifT hc1 hm
    refine wp_seq ?_
    refine wp_region_lit ?_
    apply seq_op (V := .int .i64 0) rfl
    · exact fun _ h => O_as rfl rfl h
    (try simp only [PT])
    apply seq_op (V := .int .i64 1) rfl
    · exact fun _ h => O_as rfl rfl h
    (try simp only [PT])
    refine list_end ?_
    refine then_norm ?_
    refine wp_ret ?_
    refine then_ret ?_
    have hm := Option.some.inj hm
    subst hm
    exact ret2 rfl (rv_tmp rfl) (rv_tmp rfl) rfl ⟨rfl, H⟩
  · have hc1 := hc
    clear hc
    replace hm := ifF hc1 hm
    refine wp_skip ?_
    refine then_norm ?_
    refine wp_seq ?_
    refine wp_region_lit ?_
    refine OpG.list rfl ?_; refine G_make (d := kPr.sh s) ⟨kPr_at.ht, kPr_at.bypos, kPr_at.hi⟩ _ _ rfl 100 rfl rfl (⟨false, 0⟩ : Prc) kPr_zero (show 100 * 16 ≤ 140737488355328 by decide) H ?_; clear H; intro v1 w1 H; obtain ⟨Av1, cv1, hv, -⟩ := H.len; rw [List.length_replicate] at hv; subst hv
    (try simp only [PT])
    apply seq_op (V := .slice Av1 100 cv1) rfl
    · exact fun _ h => O_as rfl rfl h
    (try simp only [PT])
    refine list_end ?_
    refine then_norm ?_
    refine wp_seq ?_
    refine wp_seq ?_
    have gn1 : Kin.inI64 ((100 : Nat) : Int) := osl_i 0 H rfl (by decide : 0 < kPr.by_)
    refine wp_region_lit ?_
    apply seq_op (V := .slice Av1 100 cv1) rfl
    · exact fun _ h => O_mv rfl rfl h
    (try simp only [PT])
    apply seq_op (V := .int .i64 (100 : Int)) rfl
    · exact fun _ h => O_len rfl Tryd.underlying135 rfl h
    (try simp only [PT])
    apply seq_op (V := .int .i64 0) rfl
    · exact fun _ h => O_mv rfl rfl h
    (try simp only [PT])
    refine list_end ?_
    refine then_norm ?_
    refine wp_block ?_
    obtain ⟨R5, hq5, hm⟩ := bs hm
    have hn5 := int_le gn1
    refine wp_loopF [none, none, none, none, none, some 5, none, none, none, none, none, none, none, none, none, none, some 16, some 17, some 18, some 19, some 20, some 21, some 22, some 23, none, none, none, none, none, none, none, none, none, none, none, none, none, none, none, none, none, none, none, none, none, none, none, none, none, none, none, none, none] rfl (by simp) (fun f w => ∃ (k5 : Nat) (r5 : Nat) (y5_p0 : List Prc), k5 + r5 = ((100 : Int)).toNat ∧ f 16 = .int .i64 (k5 : Int) ∧ assayerref03_Check_l5 k5 r5 y5_p0 = some R5 ∧ Holds E s ((kPr.sh s).Osl (.slice Av1 100 cv1) y5_p0 :: L) w) (fun f w => ((100 : Int)).toNat - (intOf (f 16)).toNat) ?_ ?_
    · exact ⟨0, _, (List.replicate 100 (⟨false, 0⟩ : Prc)), Nat.zero_add _, rfl, hq5, H⟩
    · clear H
      intro f w hI
      obtain ⟨k5, r5, y5_p0, hd5, hf16, hq5', H⟩ := hI
      clear hq5; have hq5 := hq5'; clear hq5'
      simp only [ovm, mixM]
      simp only [hf16]; clear hf16
      refine wp_seq ?_
      refine wp_region_lit ?_
      apply seq_op (V := .bool (decide ((k5 : Int) < (100 : Int)))) rfl
      · exact fun _ h => O_bin rfl rfl rfl eqg_int r_lss h
      (try simp only [PT])
      refine list_end ?_
      refine then_norm ?_
      refine wp_seq ?_
      refine wp_cond_split rfl (fun hc => ?_) (fun hc => ?_)
      · have hc2 := hc
        clear hc
        obtain ⟨r5', rfl, hl5, hd5''⟩ := irng_t hd5 hc2
        rw [assayerref03_Check_l5] at hq5
        refine wp_skip ?_
        refine then_norm ?_
        refine wp_seq ?_
        refine wp_block ?_
        refine wp_seq ?_
        refine wp_region_lit ?_
        apply seq_op (V := .int .i64 (k5 : Int)) rfl
        · exact fun _ h => O_mv rfl rfl h
        (try simp only [PT])
        apply seq_op (V := .int .i64 (k5 : Int)) rfl
        · exact fun _ h => O_as rfl rfl h
        (try simp only [PT])
        refine list_end ?_
        refine then_norm ?_
        obtain ⟨u2, gx2, hq5⟩ := bs hq5
        obtain ⟨kk1, gk1, gl1, gd1⟩ := rdI_some gx2
        obtain ⟨bokk1, rfl⟩ := own_addr 0 H rfl (fun e => by rw [e] at gl1; exact absurd gl1 (Nat.not_lt_zero _))
        have gngl1 := Nat.lt_of_lt_of_eq gl1 (osl_len 0 H rfl).symm
        obtain ⟨cse1, hKe1⟩ := own_has 0 H rfl gd1; obtain ⟨-, h1e1⟩ := kPr_op hKe1
        refine wp_region_lit ?_
        apply seq_op (V := .slice (some ⟨bokk1, 0, none⟩) 100 cv1) rfl
        · exact fun _ h => O_mv rfl rfl h
        (try simp only [PT])
        apply seq_op (V := .int .i64 (k5 : Int)) rfl
        · exact fun _ h => O_mv rfl rfl h
        (try simp only [PT])
        apply seq_op (V := .pointer (some ⟨bokk1, kk1 * 2, none⟩)) rfl
        · exact fun _ h => O_ixn rfl Tryd.underlying135 (Tryd.sizeOf137 _) rfl rfl gk1 gngl1 h
        (try simp only [PT])
        apply seq_op (V := .pointer (some ⟨bokk1, kk1 * 2 + 1, none⟩)) rfl
        · exact fun _ h => O_fld rfl Tryd.underlying137 rfl (Tryd.sizeOf3 _) rfl h
        (try simp only [PT])
        refine OpG.list rfl ?_; refine G_ownsetF (d := kPr) 0 _ _ _ rfl (Tryd.sizeOf3 _) (f := 1) (v := .int .i64 (-1)) (x' := (⟨u2.gone, (-1)⟩ : Prc)) rfl rfl (by decide) rfl H rfl gk1 gd1 rfl (fun cs h => by obtain ⟨rfl, -⟩ := kPr_op h; exact kPr_mk' (s := s) (x := (⟨u2.gone, (-1)⟩ : Prc)) (by constructor <;> decide : Kin.inI64 (-1))) ?_; clear H; intro w1 H; simp only [List.set_cons_succ, List.set_cons_zero] at H
        (try simp only [PT])
        obtain ⟨gd2, gl2⟩ := setI_drop (x := (⟨u2.gone, (-1)⟩ : Prc)) gk1 gl1
        refine list_end ?_
        refine block_norm ?_
        refine then_norm ?_
        refine wp_region_lit ?_
        apply seq_op (V := .int .i64 (IntKind.i64.wrap ((k5 : Int) + 1))) rfl
        · exact fun _ h => O_bin rfl rfl rfl eqg_int r_add h
        (try simp only [PT])
        apply seq_op (V := .int .i64 (IntKind.i64.wrap ((k5 : Int) + 1))) rfl
        · exact fun _ h => O_mv rfl rfl h
        (try simp only [PT])
        refine list_end ?_
        refine then_norm ?_
        refine ⟨⟨⟨rfl, rfl, rfl, rfl, rfl, rfl, rfl, rfl, rfl, rfl, rfl, rfl, rfl, rfl, rfl, rfl, rfl, rfl, rfl, rfl, rfl, rfl, rfl, rfl, rfl, rfl, rfl, rfl, rfl, rfl, rfl, rfl, rfl, rfl, rfl, rfl, rfl, rfl, rfl, rfl, rfl, rfl, rfl, rfl, rfl⟩, rfl⟩, ⟨k5 + 1, r5', (setI y5_p0 (k5 : Int) (⟨u2.gone, (-1)⟩ : Prc)), hd5'', wrap_succ hl5 hn5, hq5, H⟩, ?_⟩
        exact meas_succ hl5 hn5
      · have hc2 := hc
        clear hc
        obtain rfl := irng_f hd5 hc2
        rw [assayerref03_Check_l5] at hq5
        refine wp_exit ?_
        refine then_exit ?_
        refine then_exit ?_
        have hq5 := Option.some.inj hq5
        subst hq5
        (try dsimp only at hm)
        refine block_exit ?_
        refine then_norm ?_
        refine wp_seq ?_
        refine wp_region_lit ?_
        apply seq_op (V := .slice none 0 0) rfl
        · exact fun _ h => O_as rfl rfl h
        (try simp only [PT])
        refine list_end ?_
        refine then_norm ?_
        refine wp_seq ?_
        refine wp_seq ?_
        refine wp_region_lit ?_
        apply seq_op (V := .slice A_p0 a0.length c_p0) rfl
        · exact fun _ h => O_mv rfl rfl h
        (try simp only [PT])
        apply seq_op (V := .int .i64 (a0.length : Int)) rfl
        · exact fun _ h => O_len rfl Tryd.underlying55 rfl h
        (try simp only [PT])
        apply seq_op (V := .int .i64 0) rfl
        · exact fun _ h => O_mv rfl rfl h
        (try simp only [PT])
        refine list_end ?_
        refine then_norm ?_
        refine wp_block ?_
        replace H := Kin.Osl.nil (d := kLOp.sh s) H
        obtain ⟨R11, hq11, hm⟩ := bs hm
        have hn11 := Nat.le_trans (len_le (d := kEv) h_p0 (by decide)) (by decide : (140737488355328 : Nat) ≤ 9223372036854775807)
        refine wp_loopF [none, none, some 2, some 3, none, none, some 6, some 7, some 8, some 9, none, none, none, none, none, none, none, none, none, none, none, none, none, none, none, none, some 26, some 27, some 28, some 29, some 30, some 31, some 32, some 33, some 34, some 35, some 36, some 37, some 38, some 39, some 40, some 41, some 42, some 43, some 44, some 45, some 46, some 47, some 48, some 49, some 50, some 51, some 52] rfl (by simp) (fun f w => ∃ (k11 : Nat) (r11 : List Ev) (y11_6 : List (List Op')) (A_y11_6 : Option Addr) (c_y11_6 : Nat) (y11_p1 : List Prc), a0.drop k11 = r11 ∧ f 26 = .int .i64 (k11 : Int) ∧ f 6 = .slice A_y11_6 y11_6.length c_y11_6 ∧ assayerref03_Check_l11 a0 k11 r11 y11_6 y11_p1 = some R11 ∧ Holds E s ((kLOp.sh s).Osl (.slice A_y11_6 y11_6.length c_y11_6) y11_6 :: (kPr.sh s).Osl (.slice Av1 100 cv1) y11_p1 :: L) w) (fun f w => a0.length - (intOf (f 26)).toNat) ?_ ?_
        · exact ⟨0, a0, [], none, 0, y5_p0, rfl, rfl, rfl, hq11, H⟩
        · clear H
          intro f w hI
          obtain ⟨k11, r11, y11_6, A_y11_6, c_y11_6, y11_p1, hd11, hf26, hf6, hq11', H⟩ := hI
          clear hq11; have hq11 := hq11'; clear hq11'
          simp only [ovm, mixM]
          simp only [hf26, hf6]; clear hf26 hf6
          refine wp_seq ?_
          refine wp_region_lit ?_
          apply seq_op (V := .bool (decide ((k11 : Int) < (a0.length : Int)))) rfl
          · exact fun _ h => O_bin rfl rfl rfl eqg_int r_lss h
          (try simp only [PT])
          refine list_end ?_
          refine then_norm ?_
          refine wp_seq ?_
          refine wp_cond_split rfl (fun hc => ?_) (fun hc => ?_)
          · have hc3 := hc
            clear hc
            obtain ⟨x11, r11', rfl, hd11', hd11'', hl11⟩ := rng_t hd11 hc3
            rw [assayerref03_Check_l11] at hq11
            refine wp_skip ?_
            refine then_norm ?_
            refine wp_seq ?_
            refine wp_block ?_
            refine wp_seq ?_
            obtain ⟨be2, oe2, A2e2, c2e2, rfl, hCe2, h0e2, h1e2, h2e2⟩ := kEv_el h_p0 hd11'
            refine wp_region_lit ?_
            apply seq_op (V := .int .i64 (k11 : Int)) rfl
            · exact fun _ h => O_mv rfl rfl h
            (try simp only [PT])
            apply seq_op (V := .pointer (some ⟨be2, oe2 + k11 * 3, none⟩)) rfl
            · exact fun _ h => O_ix rfl Tryd.underlying55 (Tryd.sizeOf73 _) rfl rfl rfl hl11 h
            (try simp only [PT])
            apply seq_op (V := .agg #[.int .i64 x11.kind, .int .i64 x11.proc, .slice A2e2 x11.ops.length c2e2]) rfl
            · exact fun _ h => G_sN _ _ rfl (Tryd.isAgg73 _) rfl H hCe2 (Tryd.sizeOf73 _) h
            (try simp only [PT])
            refine OpG.list rfl ?_; refine G_alloc 73 rfl (Tryd.zeroValue73 _) H ?_; clear H; intro b8 w1 H; (try simp only [Value.cells] at H)
            (try simp only [PT])
            apply seq_op (V := .int .i64 (k11 : Int)) rfl
            · exact fun _ h => O_as rfl rfl h
            (try simp only [PT])
            refine OpG.list rfl ?_; refine G_setNi 0 (c := [.int .i64 x11.kind, .int .i64 x11.proc, .slice A2e2 x11.ops.length c2e2]) _ _ _ rfl (Tryd.sizeOf73 _) rfl rfl (by simp [Value.oneCell']) H rfl rfl ?_; clear H; intro w1 H; simp only [List.set_cons_succ, List.set_cons_zero] at H
            (try simp only [PT])
            refine list_end ?_
            refine then_norm ?_
            refine wp_seq ?_
            refine wp_seq ?_
            obtain ⟨u3, gx3, hq11⟩ := bs hq11
            obtain ⟨kk2, gk2, gl3, gd3⟩ := rdI_some gx3
            obtain ⟨bokk2, rfl⟩ := own_addr 2 H rfl (fun e => by rw [e] at gl3; exact absurd gl3 (Nat.not_lt_zero _))
            have gngl3 := Nat.lt_of_lt_of_eq gl3 (osl_len 2 H rfl).symm
            obtain ⟨cse3, hKe3⟩ := own_has 2 H rfl gd3; obtain ⟨-, h1e3⟩ := kPr_op hKe3
            obtain ⟨u4, gx4, hq11⟩ := bs hq11
            refine wp_region_lit ?_
            apply seq_op (V := .slice (some ⟨be2, oe2, none⟩) a0.length c_p0) rfl
            · exact fun _ h => O_mv rfl rfl h
            (try simp only [PT])
            apply seq_op (V := .int .i64 (k11 : Int)) rfl
            · exact fun _ h => O_mv rfl rfl h
            (try simp only [PT])
            apply seq_op (V := .slice (some ⟨bokk2, 0, none⟩) 100 cv1) rfl
            · exact fun _ h => O_mv rfl rfl h
            (try simp only [PT])
            apply seq_op (V := .pointer (some ⟨b8, 1, none⟩)) rfl
            · exact fun _ h => O_fld rfl Tryd.underlying73 rfl (Tryd.sizeOf3 _) rfl h
            (try simp only [PT])
            apply seq_op (V := .int .i64 x11.proc) rfl
            · exact fun _ h => L_1 0 _ _ rfl (Tryd.isAgg3 _) rfl H rfl rfl h
            (try simp only [PT])
            apply seq_op (V := .pointer (some ⟨bokk2, kk2 * 2, none⟩)) rfl
            · exact fun _ h => O_ixn rfl Tryd.underlying135 (Tryd.sizeOf137 _) rfl rfl gk2 gngl3 h
            (try simp only [PT])
            replace H := H.front 2 rfl; simp only [List.eraseIdx_cons_succ, List.eraseIdx_cons_zero] at H
            refine seq_call rfl (fun Φ hΦ => by refine O_call3 rfl Tryd.func79 rfl rfl rfl rfl rfl hΦ) (assayerref03_step_el2_w (a0 := a0) (h_p0 := h_p0) (a1 := (k11 : Int)) (hr_p1 := (nat_i (Nat.le_of_lt hl11) hn11)) (a2 := y11_p1) (a2i := x11.proc) (k_p2 := kk2) (hk_p2 := gk2) (hm := gx4) (H := H)) ?_
            clear H
            rintro e w1 ⟨rfl, H⟩; refine ⟨_, rfl, ?_⟩
            (try simp only [PT])
            apply seq_op (V := .int .i64 u4.1) rfl
            · exact fun _ h => O_as rfl rfl h
            (try simp only [PT])
            refine list_end ?_
            refine then_norm ?_
            refine wp_seq ?_
            refine wp_region_lit ?_
            apply seq_op (V := .int .i64 u4.1) rfl
            · exact fun _ h => O_mv rfl rfl h
            (try simp only [PT])
            apply seq_op (V := .bool (u4.1 != 0)) rfl
            · exact fun _ h => O_bin rfl rfl rfl eqg_int r_neq h
            (try simp only [PT])
            refine list_end ?_
            refine then_norm ?_
            refine wp_cond_split rfl (fun hc => ?_) (fun hc => ?_)
            · have hc4 := hc
              clear hc
              replace hq11 := ifT hc4 hq11
              refine wp_seq ?_
              refine wp_region_lit ?_
              apply seq_op (V := .int .i64 (k11 : Int)) rfl
              · exact fun _ h => O_mv rfl rfl h
              (try simp only [PT])
              apply seq_op (V := .int .i64 u4.1) rfl
              · exact fun _ h => O_mv rfl rfl h
              (try simp only [PT])
              apply seq_op (V := .int .i64 (k11 : Int)) rfl
              · exact fun _ h => O_as rfl rfl h
              (try simp only [PT])
              apply seq_op (V := .int .i64 u4.1) rfl
              · exact fun _ h => O_as rfl rfl h
              (try simp only [PT])
              refine list_end ?_
              refine then_norm ?_
              refine wp_ret ?_
              refine then_ret ?_
              refine block_ret ?_
              refine then_ret ?_
              refine then_ret ?_
              refine block_ret ?_
              refine then_ret ?_
              have hq11 := Option.some.inj hq11
              subst hq11
              (try dsimp only at hm)
              have hm := Option.some.inj hm
              subst hm
              replace H := H.dropAt 2 rfl; simp only [List.eraseIdx_cons_succ, List.eraseIdx_cons_zero] at H
              replace H := H.dropAt 1 rfl; simp only [List.eraseIdx_cons_succ, List.eraseIdx_cons_zero] at H
              replace H := H.dropAt 0 rfl; simp only [List.eraseIdx_cons_succ, List.eraseIdx_cons_zero] at H
              exact ret2 rfl (rv_tmp rfl) (rv_tmp rfl) rfl ⟨rfl, H⟩
            · have hc4 := hc
              clear hc
              replace hq11 := ifF hc4 hq11
              refine wp_skip ?_
              refine then_norm ?_
              refine wp_seq ?_
              refine wp_seq ?_
              obtain ⟨u5, gx5, hq11⟩ := bs hq11
              refine wp_region_lit ?_
              apply seq_op (V := .slice A_y11_6 y11_6.length c_y11_6) rfl
              · exact fun _ h => O_mv rfl rfl h
              (try simp only [PT])
              apply seq_op (V := .pointer (some ⟨b8, 2, none⟩)) rfl
              · exact fun _ h => O_fld rfl Tryd.underlying73 rfl (Tryd.sizeOf71 _) rfl h
              (try simp only [PT])
              apply seq_op (V := .slice A2e2 x11.ops.length c2e2) rfl
              · exact fun _ h => L_1 1 _ _ rfl (Tryd.isAgg71 _) rfl H rfl rfl h
              (try simp only [PT])
              refine seq_opH (V := .bool u5) H rfl ?_ ?_
              · intro Φ hΦ; refine O_call2 rfl Tryd.func80 rfl rfl rfl rfl ?_; obtain ⟨sl0, hsl0, hb0, H, bk0, bg0⟩ := lendOsl 2 rfl (Sub.refl _) H; simp only [List.eraseIdx_cons_succ, List.eraseIdx_cons_zero, List.cons_append] at H bk0; refine (assayerref03_Mixed_w (a0 := y11_6) (h_p0 := hb0) (a1 := x11.ops) (h_p1 := (h2e2.mono hsl0)) (hm := gx5) (H := H)).mono ?_; rintro e w2 ⟨rfl, H⟩; have H := bk0 H; exact ⟨_, rfl, hΦ _ H⟩
              clear H; intro w1 H
              (try simp only [PT])
              refine list_end ?_
              refine then_norm ?_
              refine wp_cond_split rfl (fun hc => ?_) (fun hc => ?_)
              · have hc5 := hc
                clear hc
                replace hq11 := ifT hc5 hq11
                refine wp_seq ?_
                refine wp_region_lit ?_
                apply seq_op (V := .int .i64 (k11 : Int)) rfl
                · exact fun _ h => O_mv rfl rfl h
                (try simp only [PT])
                apply seq_op (V := .int .i64 (k11 : Int)) rfl
                · exact fun _ h => O_as rfl rfl h
                (try simp only [PT])
                apply seq_op (V := .int .i64 33) rfl
                · exact fun _ h => O_as rfl rfl h
                (try simp only [PT])
                refine list_end ?_
                refine then_norm ?_
                refine wp_ret ?_
                refine then_ret ?_
                refine block_ret ?_
                refine then_ret ?_
                refine then_ret ?_
                refine block_ret ?_
                refine then_ret ?_
                have hq11 := Option.some.inj hq11
                subst hq11
                (try dsimp only at hm)
                have hm := Option.some.inj hm
                subst hm
                replace H := H.dropAt 2 rfl; simp only [List.eraseIdx_cons_succ, List.eraseIdx_cons_zero] at H
                replace H := H.dropAt 1 rfl; simp only [List.eraseIdx_cons_succ, List.eraseIdx_cons_zero] at H
                replace H := H.dropAt 0 rfl; simp only [List.eraseIdx_cons_succ, List.eraseIdx_cons_zero] at H
                exact ret2 rfl (rv_tmp rfl) (rv_tmp rfl) rfl ⟨rfl, H⟩
              · have hc5 := hc
                clear hc
                replace hq11 := ifF hc5 hq11
                refine wp_skip ?_
                refine then_norm ?_
                obtain ⟨u6, gx6, hq11⟩ := bs hq11
                obtain ⟨hroomgx6, egx6⟩ := app_some gx6
                refine wp_region_lit ?_
                apply seq_op (V := .slice A_y11_6 y11_6.length c_y11_6) rfl
                · exact fun _ h => O_mv rfl rfl h
                (try simp only [PT])
                apply seq_op (V := .pointer (some ⟨b8, 2, none⟩)) rfl
                · exact fun _ h => O_fld rfl Tryd.underlying73 rfl (Tryd.sizeOf71 _) rfl h
                (try simp only [PT])
                apply seq_op (V := .slice A2e2 x11.ops.length c2e2) rfl
                · exact fun _ h => L_1 1 _ _ rfl (Tryd.isAgg71 _) rfl H rfl rfl h
                (try simp only [PT])
                refine OpG.list rfl ?_; refine SL_1 rfl (v := .slice A2e2 x11.ops.length c2e2) rfl Tryd.underlying138 Tryd.sizeOf71 Tryd.zeroValue71 rfl rfl (by decide) (by decide) H ?_; clear H; intro b50 w1 H; (try simp only [Value.cells] at H)
                (try simp only [PT])
                refine OpG.list rfl ?_; refine AP_1 (p := x11.ops) 2 kLOp_at _ _ rfl (kLOp_mk' (s := s) (x := x11.ops) h2e2) H rfl rfl rfl hroomgx6 ?_; clear H; intro v2 w1 H; (try simp only [List.set_cons_succ, List.set_cons_zero] at H)
                rw [← egx6] at H
                obtain ⟨Av2, cv2, rfl, -⟩ := (H.front 2 rfl).len
                (try simp only [PT])
                apply seq_op (V := .slice Av2 u6.length cv2) rfl
                · exact fun _ h => O_as rfl rfl h
                (try simp only [PT])
                refine list_end ?_
                refine block_norm ?_
                refine then_norm ?_
                refine wp_region_lit ?_
                apply seq_op (V := .int .i64 (IntKind.i64.wrap ((k11 : Int) + 1))) rfl
                · exact fun _ h => O_bin rfl rfl rfl eqg_int r_add h
                (try simp only [PT])
                apply seq_op (V := .int .i64 (IntKind.i64.wrap ((k11 : Int) + 1))) rfl
                · exact fun _ h => O_mv rfl rfl h
                (try simp only [PT])
                refine list_end ?_
                refine then_norm ?_
                replace H := H.front 2 rfl; simp only [List.eraseIdx_cons_succ, List.eraseIdx_cons_zero] at H
                replace H := H.dropAt 2 rfl; simp only [List.eraseIdx_cons_succ, List.eraseIdx_cons_zero] at H
                refine ⟨⟨⟨rfl, rfl, rfl, rfl, rfl, rfl, rfl, rfl, rfl, rfl, rfl, rfl, rfl, rfl, rfl, rfl, rfl, rfl, rfl, rfl, rfl⟩, rfl⟩, ⟨k11 + 1, _, u6, Av2, cv2, u4.2, hd11'', wrap_succ hl11 hn11, rfl, hq11, H⟩, ?_⟩
                exact meas_succ hl11 hn11
          · have hc3 := hc
            clear hc
            obtain rfl := rng_f hd11 hc3
            rw [assayerref03_Check_l11] at hq11
            refine wp_exit ?_
            refine then_exit ?_
            refine then_exit ?_
            have hq11 := Option.some.inj hq11
            subst hq11
            (try dsimp only at hm)
            refine block_exit ?_
            refine then_norm ?_
            refine wp_seq ?_
            refine wp_region_lit ?_
            apply seq_op (V := .int .i64 0) rfl
            · exact fun _ h => O_as rfl rfl h
            (try simp only [PT])
            apply seq_op (V := .int .i64 0) rfl
            · exact fun _ h => O_as rfl rfl h
            (try simp only [PT])
            refine list_end ?_
            refine then_norm ?_
            refine wp_ret ?_
            have hm := Option.some.inj hm
            subst hm
            replace H := H.dropAt 1 rfl; simp only [List.eraseIdx_cons_succ, List.eraseIdx_cons_zero] at H
            replace H := H.dropAt 0 rfl; simp only [List.eraseIdx_cons_succ, List.eraseIdx_cons_zero] at H
            exact ret2 rfl (rv_tmp rfl) (rv_tmp rfl) rfl ⟨rfl, H⟩
def assayerplain_Why_f (a0 : Option Flt) : Int × Int := if ((a0).isNone) = true then (0, 0) else (if (!((a0).isSome)) = true then ((-1), (-1)) else (((a0).getD ⟨0, 0⟩).why, ((a0).getD ⟨0, 0⟩).at_))

set_option maxHeartbeats 4000000 in
theorem assayerplain_Why_w {E : World} {s : SH} {L : List HP} {w : World} {a0 : Option Flt} (H : Holds E s (L) w) :
    Calls Tryd.prog 72 #[encErr a0] w fun e w' => e = .returned (.tuple #[.int .i64 ((assayerplain_Why_f a0).1), .int .i64 ((assayerplain_Why_f a0).2)]) ∧ Holds E s (L) w' := by
  obtain ⟨R, hm⟩ : ∃ R, assayerplain_Why_f a0 = R := ⟨_, rfl⟩
  (try rw [hm])
  unfold assayerplain_Why_f at hm
  go_enter Tryd.func72, Tryd.ntmps72
  refine wp_seq ?_
  refine wp_region_lit ?_
  apply seq_op (V := .int .i64 0) rfl
  · exact fun _ h => O_as rfl rfl h
  (try simp only [PT])
  apply seq_op (V := .int .i64 0) rfl
  · exact fun _ h => O_as rfl rfl h
  (try simp only [PT])
  refine list_end ?_
  refine then_norm ?_
  refine wp_seq ?_
  refine wp_seq ?_
  refine wp_region_lit ?_
  apply seq_op (V := encErr a0) rfl
  · exact fun _ h => O_mv rfl rfl h
  (try simp only [PT])
  apply seq_op (V := .bool ((a0).isNone)) rfl
  · exact fun _ h => O_bin rfl rfl rfl eqg_err (r_enil Tryd.underlying59) h
  (try simp only [PT])
  refine list_end ?_
  refine then_norm ?_
  refine wp_cond_split rfl (fun hc => ?_) (fun hc => ?_)
  · have hc1 := hc
    clear hc
    replace hm := ifT hc1 hm
    refine wp_seq ?_
    refine wp_region_lit ?_
    apply seq_op (V := .int .i64 0) rfl
    · exact fun _ h => O_as rfl rfl h
    (try simp only [PT])
    apply seq_op (V := .int .i64 0) rfl
    · exact fun _ h => O_as rfl rfl h
    (try simp only [PT])
    refine list_end ?_
    refine then_norm ?_
    refine wp_ret ?_
    refine then_ret ?_
    subst hm
    exact ret2 rfl (rv_tmp rfl) (rv_tmp rfl) rfl ⟨rfl, H⟩
  · have hc1 := hc
    clear hc
    replace hm := ifF hc1 hm
    refine wp_skip ?_
    refine then_norm ?_
    refine wp_seq ?_
    refine wp_region_lit ?_
    apply seq_op (V := encErr a0) rfl
    · exact fun _ h => O_mv rfl rfl h
    (try simp only [PT])
    apply seq_op (V := .tuple #[.agg #[.int .i64 (((a0).getD ⟨0, 0⟩).at_), .int .i64 (((a0).getD ⟨0, 0⟩).why)], .bool ((a0).isSome)]) rfl
    · exact fun _ h => O_tae rfl rfl h
    (try simp only [PT])
    apply seq_op (V := .tuple #[.agg #[.int .i64 (((a0).getD ⟨0, 0⟩).at_), .int .i64 (((a0).getD ⟨0, 0⟩).why)], .bool ((a0).isSome)]) rfl
    · exact fun _ h => O_mv rfl rfl h
    (try simp only [PT])
    apply seq_op (V := .agg #[.int .i64 (((a0).getD ⟨0, 0⟩).at_), .int .i64 (((a0).getD ⟨0, 0⟩).why)]) rfl
    · exact fun _ h => O_ext rfl rfl rfl h
    (try simp only [PT])
    apply seq_op (V := .bool ((a0).isSome)) rfl
    · exact fun _ h => O_ext rfl rfl rfl h
    (try simp only [PT])
    refine OpG.list rfl ?_; refine G_alloc 124 rfl (Tryd.zeroValue124 _) H ?_; clear H; intro b4 w1 H; (try simp only [Value.cells] at H)
    (try simp only [PT])
    refine OpG.list rfl ?_; refine G_setNi 0 (c := [.int .i64 (((a0).getD ⟨0, 0⟩).at_), .int .i64 (((a0).getD ⟨0, 0⟩).why)]) _ _ _ rfl (Tryd.sizeOf124 _) rfl rfl (by simp [Value.oneCell']) H rfl rfl ?_; clear H; intro w1 H; simp only [List.set_cons_succ, List.set_cons_zero] at H
    (try simp only [PT])
    apply seq_op (V := .bool ((a0).isSome)) rfl
    · exact fun _ h => O_as rfl rfl h
    (try simp only [PT])
    refine list_end ?_
    refine then_norm ?_
    refine wp_seq ?_
    refine wp_seq ?_
    refine wp_region_lit ?_
    apply seq_op (V := .bool ((a0).isSome)) rfl
    · exact fun _ h => O_mv rfl rfl h
    (try simp only [PT])
    apply seq_op (V := .bool (!((a0).isSome))) rfl
    · exact fun _ h => O_not rfl rfl h
    (try simp only [PT])
    refine list_end ?_
    refine then_norm ?_
    refine wp_cond_split rfl (fun hc => ?_) (fun hc => ?_)
    · have hc2 := hc
      clear hc
      replace hm := ifT hc2 hm
      refine wp_seq ?_
      refine wp_region_lit ?_
      apply seq_op (V := .int .i64 (-1)) rfl
      · exact fun _ h => O_as rfl rfl h
      (try simp only [PT])
      apply seq_op (V := .int .i64 (-1)) rfl
      · exact fun _ h => O_as rfl rfl h
      (try simp only [PT])
      refine list_end ?_
      refine then_norm ?_
      refine wp_ret ?_
      refine then_ret ?_
      subst hm
      replace H := H.dropAt 0 rfl; simp only [List.eraseIdx_cons_succ, List.eraseIdx_cons_zero] at H
      exact ret2 rfl (rv_tmp rfl) (rv_tmp rfl) rfl ⟨rfl, H⟩
    · have hc2 := hc
      clear hc
      replace hm := ifF hc2 hm
      refine wp_skip ?_
      refine then_norm ?_
      refine wp_seq ?_
      refine wp_draw_obO (k := 5) (sz := 19) (List.replicate 5 5) (fun _ => []) mixed (by simp) rfl (by kernel_rfl) (by kernel_rfl) (by kernel_rfl) H (by simp only [List.take_succ_cons, List.take_zero]; exact rfl) (by simp only [List.drop_succ_cons, List.drop_zero]; exact rfl)
        (fun y => by simp only [ov, Act.put, List.setIfInBounds_toArray, List.set_cons_succ, List.set_cons_zero, Nat.zero_add, Nat.reduceAdd]; exact rfl) ?_
      apply ObO.valw (V := .pointer (some ⟨b4, 1, none⟩))
      · intro x; rfl
      · intro s' w' y Φ R hs H hG hΦ; refine wantG rfl ?_; refine O_fld rfl Tryd.underlying124 rfl (Tryd.sizeOf43 _) rfl ?_; exact hΦ _ _ (Sub.refl _) H
      apply ObO.valw (V := .int .i64 (((a0).getD ⟨0, 0⟩).why))
      · intro x; rfl
      · intro s' w' y Φ R hs H hG hΦ; simp only [List.nil_append, List.cons_append] at hG; have e0 : y 0 = _ := dh_get hG 0 rfl (by kernel_rfl); simp only [e0]; refine wantG rfl ?_; refine L_1 0 _ _ rfl (Tryd.isAgg43 _) rfl H rfl rfl ?_; exact hΦ _ _ (Sub.refl _) H
      apply ObO.valw (V := .pointer (some ⟨b4, 0, none⟩))
      · intro x; rfl
      · intro s' w' y Φ R hs H hG hΦ; refine wantG rfl ?_; refine O_fld rfl Tryd.underlying124 rfl (Tryd.sizeOf3 _) rfl ?_; exact hΦ _ _ (Sub.refl _) H
      apply ObO.valw (V := .int .i64 (((a0).getD ⟨0, 0⟩).at_))
      · intro x; rfl
      · intro s' w' y Φ R hs H hG hΦ; simp only [List.nil_append, List.cons_append] at hG; have e2 : y 2 = _ := dh_get hG 2 rfl (by kernel_rfl); simp only [e2]; refine wantG rfl ?_; refine L_1 0 _ _ rfl (Tryd.isAgg3 _) rfl H rfl rfl ?_; exact hΦ _ _ (Sub.refl _) H
      apply ObO.valw (V := .int .i64 (((a0).getD ⟨0, 0⟩).why))
      · intro x; rfl
      · intro s' w' y Φ R hs H hG hΦ; simp only [List.nil_append, List.cons_append] at hG; have e1 : y 1 = _ := dh_get hG 1 rfl (by kernel_rfl); simp only [e1]; refine wantG rfl ?_; refine O_as rfl rfl ?_; exact hΦ _ _ (Sub.refl _) H
      clear H
      intro s3 w3 yy hs3 H hG
      replace H := (show Holds _ _ ([] ++ _) _ from H); rw [List.nil_append] at H
      simp only [List.nil_append, List.cons_append] at hG
      have e0 : yy 0 = _ := gh_get hG 0 rfl
      have e1 : yy 1 = _ := gh_get hG 1 rfl
      have e2 : yy 2 = _ := gh_get hG 2 rfl
      have e3 : yy 3 = _ := gh_get hG 3 rfl
      have e4 : yy 4 = _ := gh_get hG 4 rfl
      simp only [e0, e1, e2, e3, e4]
      clear hG e0 e1 e2 e3 e4
      replace H := H.forget hs3; clear hs3
      apply seq_op (V := .int .i64 (((a0).getD ⟨0, 0⟩).at_)) rfl
      · exact fun _ h => O_as rfl rfl h
      (try simp only [PT])
      refine list_end ?_
      refine then_norm ?_
      refine wp_ret ?_
      subst hm
      replace H := H.dropAt 0 rfl; simp only [List.eraseIdx_cons_succ, List.eraseIdx_cons_zero] at H
      exact ret2 rfl (rv_tmp rfl) (rv_tmp rfl) rfl ⟨rfl, H⟩
def assayerplain_Is_f (a0 : Option Flt) (a1 : Int) (a2 : Int) : Bool := ((((assayerplain_Why_f a0).1) == a2) && (((assayerplain_Why_f a0).2) == a1))

set_option maxHeartbeats 4000000 in
theorem assayerplain_Is_w {E : World} {s : SH} {L : List HP} {w : World} {a0 : Option Flt} {a1 : Int} {a2 : Int} (H : Holds E s (L) w) :
    Calls Tryd.prog 33 #[encErr a0, .int .i64 a1, .int .i64 a2] w fun e w' => e = .returned (.bool (assayerplain_Is_f a0 a1 a2)) ∧ Holds E s (L) w' := by
  obtain ⟨R, hm⟩ : ∃ R, assayerplain_Is_f a0 a1 a2 = R := ⟨_, rfl⟩
  (try rw [hm])
  unfold assayerplain_Is_f at hm
  go_enter Tryd.func33, Tryd.ntmps33
  refine wp_seq ?_
  refine wp_region_lit ?_
  apply seq_op (V := .bool false) rfl
  · exact fun _ h => O_as rfl rfl h
  (try simp only [PT])
  refine list_end ?_
  refine then_norm ?_
  refine wp_seq ?_
  refine wp_region_lit ?_
  apply seq_op (V := encErr a0) rfl
  · exact fun _ h => O_mv rfl rfl h
  (try simp only [PT])
  refine seq_call rfl (fun Φ hΦ => by refine O_call1 rfl Tryd.func72 rfl rfl rfl hΦ) (assayerplain_Why_w (a0 := a0) (H := H)) ?_
  clear H
  rintro e w1 ⟨rfl, H⟩; refine ⟨_, rfl, ?_⟩
  (try simp only [PT])
  apply seq_op (V := .tuple #[.int .i64 ((assayerplain_Why_f a0).1), .int .i64 ((assayerplain_Why_f a0).2)]) rfl
  · exact fun _ h => O_mv rfl rfl h
  (try simp only [PT])
  apply seq_op (V := .int .i64 ((assayerplain_Why_f a0).1)) rfl
  · exact fun _ h => O_ext rfl rfl rfl h
  (try simp only [PT])
  apply seq_op (V := .int .i64 ((assayerplain_Why_f a0).2)) rfl
  · exact fun _ h => O_ext rfl rfl rfl h
  (try simp only [PT])
  apply seq_op (V := .int .i64 ((assayerplain_Why_f a0).1)) rfl
  · exact fun _ h => O_as rfl rfl h
  (try simp only [PT])
  apply seq_op (V := .int .i64 ((assayerplain_Why_f a0).2)) rfl
  · exact fun _ h => O_as rfl rfl h
  (try simp only [PT])
  refine list_end ?_
  refine then_norm ?_
  refine wp_seq ?_
  refine wp_region_lit ?_
  apply seq_op (V := .int .i64 ((assayerplain_Why_f a0).1)) rfl
  · exact fun _ h => O_mv rfl rfl h
  (try simp only [PT])
  apply seq_op (V := .int .i64 a2) rfl
  · exact fun _ h => O_mv rfl rfl h
  (try simp only [PT])
  apply seq_op (V := .bool (((assayerplain_Why_f a0).1) == a2)) rfl
  · exact fun _ h => O_bin rfl rfl rfl eqg_int r_eql h
  (try simp only [PT])
  apply seq_op (V := .bool (((assayerplain_Why_f a0).1) == a2)) rfl
  · exact fun _ h => O_mv rfl rfl h
  (try simp only [PT])
  refine seq_opg (c := (((assayerplain_Why_f a0).1) == a2)) (V := .int .i64 ((assayerplain_Why_f a0).2)) (by first | exact wanted_t rfl rfl rfl | exact wanted_vt rfl rfl rfl) ?_ ?_
  · intro hc Φ hΦ; refine O_mv rfl rfl ?_; exact hΦ
  (try simp only [PT])
  refine seq_opg (c := (((assayerplain_Why_f a0).1) == a2)) (V := .int .i64 a1) (by first | exact wanted_t rfl rfl rfl | exact wanted_vt rfl rfl rfl) ?_ ?_
  · intro hc Φ hΦ; refine O_mv rfl rfl ?_; exact hΦ
  (try simp only [PT])
  refine seq_opg (c := (((assayerplain_Why_f a0).1) == a2)) (V := .bool (((assayerplain_Why_f a0).2) == a1)) (by first | exact wanted_t rfl rfl rfl | exact wanted_vt rfl rfl rfl) ?_ ?_
  · intro hc Φ hΦ; (repeat (first | rw [vg_of hc] | rw [vg_of (and_l hc)] | rw [vg_of (and_l (and_l hc))] | rw [vg_of (and_l (and_l (and_l hc)))] | rw [vg_and hc])); refine O_bin rfl rfl rfl eqg_int r_eql ?_; exact hΦ
  (try simp only [PT])
  apply seq_op (V := .bool ((((assayerplain_Why_f a0).1) == a2) && (((assayerplain_Why_f a0).2) == a1))) rfl
  · exact fun _ h => G_and _ _ _ rfl rfl rfl rfl h
  (try simp only [PT])
  apply seq_op (V := .bool ((((assayerplain_Why_f a0).1) == a2) && (((assayerplain_Why_f a0).2) == a1))) rfl
  · exact fun _ h => O_as rfl rfl h
  (try simp only [PT])
  refine list_end ?_
  refine then_norm ?_
  refine wp_ret ?_
  subst hm
  exact ret1 rfl (rv_tmp rfl) rfl ⟨rfl, H⟩
def assayerplain_SameOps_1_f (a0 : Op') (a1 : Op') : Option Bool := if (((((a0.kind == a1.kind) && (a0.key.toList == a1.key.toList)) && (a0.value == a1.value)) && (a0.has == a1.has)) && (a0.isNil == a1.isNil)) = true then ((slices_Equal_I_f a0.list a1.list).bind fun u1 => some u1) else (some false)

set_option maxHeartbeats 4000000 in
theorem assayerplain_SameOps_1_w {E : World} {s : SH} {L : List HP} {w : World} {a0 : Op'} {a1 : Op'} {A_p0_list : Option Addr} {c_p0_list : Nat} (h_p0_list : kI.Sl s (.slice A_p0_list a0.list.length c_p0_list) a0.list) {A_p1_list : Option Addr} {c_p1_list : Nat} (h_p1_list : kI.Sl s (.slice A_p1_list a1.list.length c_p1_list) a1.list) {R : Bool} (hm : assayerplain_SameOps_1_f a0 a1 = some R) (H : Holds E s (L) w) :
    Calls Tryd.prog 124 #[.agg #[.int .i64 a0.kind, .string a0.key, .int .i64 a0.value, .slice A_p0_list a0.list.length c_p0_list, .bool a0.has, .bool a0.isNil], .agg #[.int .i64 a1.kind, .string a1.key, .int .i64 a1.value, .slice A_p1_list a1.list.length c_p1_list, .bool a1.has, .bool a1.isNil]] w fun e w' => e = .returned (.bool R) ∧ Holds E s (L) w' := by
  unfold assayerplain_SameOps_1_f at hm
  go_enter Tryd.func124, Tryd.ntmps124
  refine wp_seq ?_
  refine wp_region_lit ?_
  refine OpG.list rfl ?_; refine B_x 108 _ rfl (v := .agg #[.int .i64 a0.kind, .string a0.key, .int .i64 a0.value, .slice A_p0_list a0.list.length c_p0_list, .bool a0.has, .bool a0.isNil]) rfl H ?_; clear H; intro b2 w1 H; (try simp only [Value.cells] at H)
  (try simp only [PT])
  refine OpG.list rfl ?_; refine B_x 108 _ rfl (v := .agg #[.int .i64 a1.kind, .string a1.key, .int .i64 a1.value, .slice A_p1_list a1.list.length c_p1_list, .bool a1.has, .bool a1.isNil]) rfl H ?_; clear H; intro b3 w1 H; (try simp only [Value.cells] at H)
  (try simp only [PT])
  apply seq_op (V := .bool false) rfl
  · exact fun _ h => O_as rfl rfl h
  (try simp only [PT])
  refine list_end ?_
  refine then_norm ?_
  refine wp_seq ?_
  rcases Bool.eq_false_or_eq_true (((((a0.kind == a1.kind) && (a0.key.toList == a1.key.toList)) && (a0.value == a1.value)) && (a0.has == a1.has)) && (a0.isNil == a1.isNil)) with hg1 | hg1
  · replace hm := ifT hg1 hm
    obtain ⟨u1, gx1, hm⟩ := bs hm
    refine wp_region_lit ?_
    apply seq_op (V := .pointer (some ⟨b2, 0, none⟩)) rfl
    · exact fun _ h => O_fld rfl Tryd.underlying108 rfl (Tryd.sizeOf3 _) rfl h
    (try simp only [PT])
    apply seq_op (V := .int .i64 a0.kind) rfl
    · exact fun _ h => L_1 1 _ _ rfl (Tryd.isAgg3 _) rfl H rfl rfl h
    (try simp only [PT])
    apply seq_op (V := .pointer (some ⟨b3, 0, none⟩)) rfl
    · exact fun _ h => O_fld rfl Tryd.underlying108 rfl (Tryd.sizeOf3 _) rfl h
    (try simp only [PT])
    apply seq_op (V := .int .i64 a1.kind) rfl
    · exact fun _ h => L_1 0 _ _ rfl (Tryd.isAgg3 _) rfl H rfl rfl h
    (try simp only [PT])
    apply seq_op (V := .bool (a0.kind == a1.kind)) rfl
    · exact fun _ h => O_bin rfl rfl rfl eqg_int r_eql h
    (try simp only [PT])
    apply seq_op (V := .bool (a0.kind == a1.kind)) rfl
    · exact fun _ h => O_mv rfl rfl h
    (try simp only [PT])
    refine seq_opg (c := (a0.kind == a1.kind)) (V := .pointer (some ⟨b2, 1, none⟩)) (by first | exact wanted_t rfl rfl rfl | exact wanted_vt rfl rfl rfl) ?_ ?_
    · intro hc Φ hΦ; refine O_fld rfl Tryd.underlying108 rfl (Tryd.sizeOf9 _) rfl ?_; exact hΦ
    (try simp only [PT])
    refine seq_opg (c := (a0.kind == a1.kind)) (V := .string a0.key) (by first | exact wanted_t rfl rfl rfl | exact wanted_vt rfl rfl rfl) ?_ ?_
    · intro hc Φ hΦ; (repeat (first | rw [vg_of hc] | rw [vg_of (and_l hc)] | rw [vg_of (and_l (and_l hc))] | rw [vg_of (and_l (and_l (and_l hc)))] | rw [vg_and hc])); refine L_1 1 _ _ rfl (Tryd.isAgg9 _) rfl H rfl rfl ?_; exact hΦ
    (try simp only [PT])
    refine seq_opg (c := (a0.kind == a1.kind)) (V := .pointer (some ⟨b3, 1, none⟩)) (by first | exact wanted_t rfl rfl rfl | exact wanted_vt rfl rfl rfl) ?_ ?_
    · intro hc Φ hΦ; refine O_fld rfl Tryd.underlying108 rfl (Tryd.sizeOf9 _) rfl ?_; exact hΦ
    (try simp only [PT])
    refine seq_opg (c := (a0.kind == a1.kind)) (V := .string a1.key) (by first | exact wanted_t rfl rfl rfl | exact wanted_vt rfl rfl rfl) ?_ ?_
    · intro hc Φ hΦ; (repeat (first | rw [vg_of hc] | rw [vg_of (and_l hc)] | rw [vg_of (and_l (and_l hc))] | rw [vg_of (and_l (and_l (and_l hc)))] | rw [vg_and hc])); refine L_1 0 _ _ rfl (Tryd.isAgg9 _) rfl H rfl rfl ?_; exact hΦ
    (try simp only [PT])
    refine seq_opg (c := (a0.kind == a1.kind)) (V := .bool (a0.key.toList == a1.key.toList)) (by first | exact wanted_t rfl rfl rfl | exact wanted_vt rfl rfl rfl) ?_ ?_
    · intro hc Φ hΦ; (repeat (first | rw [vg_of hc] | rw [vg_of (and_l hc)] | rw [vg_of (and_l (and_l hc))] | rw [vg_of (and_l (and_l (and_l hc)))] | rw [vg_and hc])); refine O_bin rfl rfl rfl eqg_str r_seq ?_; exact hΦ
    (try simp only [PT])
    apply seq_op (V := .bool ((a0.kind == a1.kind) && (a0.key.toList == a1.key.toList))) rfl
    · exact fun _ h => G_and _ _ _ rfl rfl rfl rfl h
    (try simp only [PT])
    apply seq_op (V := .bool ((a0.kind == a1.kind) && (a0.key.toList == a1.key.toList))) rfl
    · exact fun _ h => O_mv rfl rfl h
    (try simp only [PT])
    refine seq_opg (c := ((a0.kind == a1.kind) && (a0.key.toList == a1.key.toList))) (V := .pointer (some ⟨b2, 2, none⟩)) (by first | exact wanted_t rfl rfl rfl | exact wanted_vt rfl rfl rfl) ?_ ?_
    · intro hc Φ hΦ; refine O_fld rfl Tryd.underlying108 rfl (Tryd.sizeOf3 _) rfl ?_; exact hΦ
    (try simp only [PT])
    refine seq_opg (c := ((a0.kind == a1.kind) && (a0.key.toList == a1.key.toList))) (V := .int .i64 a0.value) (by first | exact wanted_t rfl rfl rfl | exact wanted_vt rfl rfl rfl) ?_ ?_
    · intro hc Φ hΦ; (repeat (first | rw [vg_of hc] | rw [vg_of (and_l hc)] | rw [vg_of (and_l (and_l hc))] | rw [vg_of (and_l (and_l (and_l hc)))] | rw [vg_and hc])); refine L_1 1 _ _ rfl (Tryd.isAgg3 _) rfl H rfl rfl ?_; exact hΦ
    (try simp only [PT])
    refine seq_opg (c := ((a0.kind == a1.kind) && (a0.key.toList == a1.key.toList))) (V := .pointer (some ⟨b3, 2, none⟩)) (by first | exact wanted_t rfl rfl rfl | exact wanted_vt rfl rfl rfl) ?_ ?_
    · intro hc Φ hΦ; refine O_fld rfl Tryd.underlying108 rfl (Tryd.sizeOf3 _) rfl ?_; exact hΦ
    (try simp only [PT])
    refine seq_opg (c := ((a0.kind == a1.kind) && (a0.key.toList == a1.key.toList))) (V := .int .i64 a1.value) (by first | exact wanted_t rfl rfl rfl | exact wanted_vt rfl rfl rfl) ?_ ?_
    · intro hc Φ hΦ; (repeat (first | rw [vg_of hc] | rw [vg_of (and_l hc)] | rw [vg_of (and_l (and_l hc))] | rw [vg_of (and_l (and_l (and_l hc)))] | rw [vg_and hc])); refine L_1 0 _ _ rfl (Tryd.isAgg3 _) rfl H rfl rfl ?_; exact hΦ
    (try simp only [PT])
    refine seq_opg (c := ((a0.kind == a1.kind) && (a0.key.toList == a1.key.toList))) (V := .bool (a0.value == a1.value)) (by first | exact wanted_t rfl rfl rfl | exact wanted_vt rfl rfl rfl) ?_ ?_
    · intro hc Φ hΦ; (repeat (first | rw [vg_of hc] | rw [vg_of (and_l hc)] | rw [vg_of (and_l (and_l hc))] | rw [vg_of (and_l (and_l (and_l hc)))] | rw [vg_and hc])); refine O_bin rfl rfl rfl eqg_int r_eql ?_; exact hΦ
    (try simp only [PT])
    apply seq_op (V := .bool (((a0.kind == a1.kind) && (a0.key.toList == a1.key.toList)) && (a0.value == a1.value))) rfl
    · exact fun _ h => G_and _ _ _ rfl rfl rfl rfl h
    (try simp only [PT])
    apply seq_op (V := .bool (((a0.kind == a1.kind) && (a0.key.toList == a1.key.toList)) && (a0.value == a1.value))) rfl
    · exact fun _ h => O_mv rfl rfl h
    (try simp only [PT])
    refine seq_opg (c := (((a0.kind == a1.kind) && (a0.key.toList == a1.key.toList)) && (a0.value == a1.value))) (V := .pointer (some ⟨b2, 4, none⟩)) (by first | exact wanted_t rfl rfl rfl | exact wanted_vt rfl rfl rfl) ?_ ?_
    · intro hc Φ hΦ; refine O_fld rfl Tryd.underlying108 rfl (Tryd.sizeOf4 _) rfl ?_; exact hΦ
    (try simp only [PT])
    refine seq_opg (c := (((a0.kind == a1.kind) && (a0.key.toList == a1.key.toList)) && (a0.value == a1.value))) (V := .bool a0.has) (by first | exact wanted_t rfl rfl rfl | exact wanted_vt rfl rfl rfl) ?_ ?_
    · intro hc Φ hΦ; (repeat (first | rw [vg_of hc] | rw [vg_of (and_l hc)] | rw [vg_of (and_l (and_l hc))] | rw [vg_of (and_l (and_l (and_l hc)))] | rw [vg_and hc])); refine L_1 1 _ _ rfl (Tryd.isAgg4 _) rfl H rfl rfl ?_; exact hΦ
    (try simp only [PT])
    refine seq_opg (c := (((a0.kind == a1.kind) && (a0.key.toList == a1.key.toList)) && (a0.value == a1.value))) (V := .pointer (some ⟨b3, 4, none⟩)) (by first | exact wanted_t rfl rfl rfl | exact wanted_vt rfl rfl rfl) ?_ ?_
    · intro hc Φ hΦ; refine O_fld rfl Tryd.underlying108 rfl (Tryd.sizeOf4 _) rfl ?_; exact hΦ
    (try simp only [PT])
    refine seq_opg (c := (((a0.kind == a1.kind) && (a0.key.toList == a1.key.toList)) && (a0.value == a1.value))) (V := .bool a1.has) (by first | exact wanted_t rfl rfl rfl | exact wanted_vt rfl rfl rfl) ?_ ?_
    · intro hc Φ hΦ; (repeat (first | rw [vg_of hc] | rw [vg_of (and_l hc)] | rw [vg_of (and_l (and_l hc))] | rw [vg_of (and_l (and_l (and_l hc)))] | rw [vg_and hc])); refine L_1 0 _ _ rfl (Tryd.isAgg4 _) rfl H rfl rfl ?_; exact hΦ
    (try simp only [PT])
    refine seq_opg (c := (((a0.kind == a1.kind) && (a0.key.toList == a1.key.toList)) && (a0.value == a1.value))) (V := .bool (a0.has == a1.has)) (by first | exact wanted_t rfl rfl rfl | exact wanted_vt rfl rfl rfl) ?_ ?_
    · intro hc Φ hΦ; (repeat (first | rw [vg_of hc] | rw [vg_of (and_l hc)] | rw [vg_of (and_l (and_l hc))] | rw [vg_of (and_l (and_l (and_l hc)))] | rw [vg_and hc])); refine O_bin rfl rfl rfl eqg_bool (r_beq Tryd.underlying4) ?_; exact hΦ
    (try simp only [PT])
    apply seq_op (V := .bool ((((a0.kind == a1.kind) && (a0.key.toList == a1.key.toList)) && (a0.value == a1.value)) && (a0.has == a1.has))) rfl
    · exact fun _ h => G_and _ _ _ rfl rfl rfl rfl h
    (try simp only [PT])
    apply seq_op (V := .bool ((((a0.kind == a1.kind) && (a0.key.toList == a1.key.toList)) && (a0.value == a1.value)) && (a0.has == a1.has))) rfl
    · exact fun _ h => O_mv rfl rfl h
    (try simp only [PT])
    refine seq_opg (c := ((((a0.kind == a1.kind) && (a0.key.toList == a1.key.toList)) && (a0.value == a1.value)) && (a0.has == a1.has))) (V := .pointer (some ⟨b2, 5, none⟩)) (by first | exact wanted_t rfl rfl rfl | exact wanted_vt rfl rfl rfl) ?_ ?_
    · intro hc Φ hΦ; refine O_fld rfl Tryd.underlying108 rfl (Tryd.sizeOf4 _) rfl ?_; exact hΦ
    (try simp only [PT])
    refine seq_opg (c := ((((a0.kind == a1.kind) && (a0.key.toList == a1.key.toList)) && (a0.value == a1.value)) && (a0.has == a1.has))) (V := .bool a0.isNil) (by first | exact wanted_t rfl rfl rfl | exact wanted_vt rfl rfl rfl) ?_ ?_
    · intro hc Φ hΦ; (repeat (first | rw [vg_of hc] | rw [vg_of (and_l hc)] | rw [vg_of (and_l (and_l hc))] | rw [vg_of (and_l (and_l (and_l hc)))] | rw [vg_and hc])); refine L_1 1 _ _ rfl (Tryd.isAgg4 _) rfl H rfl rfl ?_; exact hΦ
    (try simp only [PT])
    refine seq_opg (c := ((((a0.kind == a1.kind) && (a0.key.toList == a1.key.toList)) && (a0.value == a1.value)) && (a0.has == a1.has))) (V := .pointer (some ⟨b3, 5, none⟩)) (by first | exact wanted_t rfl rfl rfl | exact wanted_vt rfl rfl rfl) ?_ ?_
    · intro hc Φ hΦ; refine O_fld rfl Tryd.underlying108 rfl (Tryd.sizeOf4 _) rfl ?_; exact hΦ
    (try simp only [PT])
    refine seq_opg (c := ((((a0.kind == a1.kind) && (a0.key.toList == a1.key.toList)) && (a0.value == a1.value)) && (a0.has == a1.has))) (V := .bool a1.isNil) (by first | exact wanted_t rfl rfl rfl | exact wanted_vt rfl rfl rfl) ?_ ?_
    · intro hc Φ hΦ; (repeat (first | rw [vg_of hc] | rw [vg_of (and_l hc)] | rw [vg_of (and_l (and_l hc))] | rw [vg_of (and_l (and_l (and_l hc)))] | rw [vg_and hc])); refine L_1 0 _ _ rfl (Tryd.isAgg4 _) rfl H rfl rfl ?_; exact hΦ
    (try simp only [PT])
    refine seq_opg (c := ((((a0.kind == a1.kind) && (a0.key.toList == a1.key.toList)) && (a0.value == a1.value)) && (a0.has == a1.has))) (V := .bool (a0.isNil == a1.isNil)) (by first | exact wanted_t rfl rfl rfl | exact wanted_vt rfl rfl rfl) ?_ ?_
    · intro hc Φ hΦ; (repeat (first | rw [vg_of hc] | rw [vg_of (and_l hc)] | rw [vg_of (and_l (and_l hc))] | rw [vg_of (and_l (and_l (and_l hc)))] | rw [vg_and hc])); refine O_bin rfl rfl rfl eqg_bool (r_beq Tryd.underlying4) ?_; exact hΦ
    (try simp only [PT])
    apply seq_op (V := .bool (((((a0.kind == a1.kind) && (a0.key.toList == a1.key.toList)) && (a0.value == a1.value)) && (a0.has == a1.has)) && (a0.isNil == a1.isNil))) rfl
    · exact fun _ h => G_and _ _ _ rfl rfl rfl rfl h
    (try simp only [PT])
    apply seq_op (V := .bool (((((a0.kind == a1.kind) && (a0.key.toList == a1.key.toList)) && (a0.value == a1.value)) && (a0.has == a1.has)) && (a0.isNil == a1.isNil))) rfl
    · exact fun _ h => O_mv rfl rfl h
    (try simp only [PT])
    refine seq_opw (V := .pointer (some ⟨b2, 3, none⟩)) ((wanted_t rfl rfl rfl).trans hg1) ?_ ?_
    · exact fun _ h => O_fld rfl Tryd.underlying108 rfl (Tryd.sizeOf27 _) rfl h
    (try simp only [PT])
    refine seq_opw (V := .slice A_p0_list a0.list.length c_p0_list) ((wanted_t rfl rfl rfl).trans hg1) ?_ ?_
    · exact fun _ h => L_1 1 _ _ rfl (Tryd.isAgg27 _) rfl H rfl rfl h
    (try simp only [PT])
    refine seq_opw (V := .pointer (some ⟨b3, 3, none⟩)) ((wanted_t rfl rfl rfl).trans hg1) ?_ ?_
    · exact fun _ h => O_fld rfl Tryd.underlying108 rfl (Tryd.sizeOf27 _) rfl h
    (try simp only [PT])
    refine seq_opw (V := .slice A_p1_list a1.list.length c_p1_list) ((wanted_t rfl rfl rfl).trans hg1) ?_ ?_
    · exact fun _ h => L_1 0 _ _ rfl (Tryd.isAgg27 _) rfl H rfl rfl h
    (try simp only [PT])
    refine seq_callw ((wanted_t rfl rfl rfl).trans hg1) (fun Φ hΦ => by refine O_call2 rfl Tryd.func23 rfl rfl rfl rfl hΦ) (slices_Equal_I_w (a0 := a0.list) (h_p0 := h_p0_list) (a1 := a1.list) (h_p1 := h_p1_list) (hm := gx1) (H := H)) ?_
    clear H
    rintro e w1 ⟨rfl, H⟩; refine ⟨_, rfl, ?_⟩
    (try simp only [PT])
    apply seq_op (V := .bool u1) rfl
    · exact fun _ h => O_pickT rfl rfl hg1 rfl h
    (try simp only [PT])
    apply seq_op (V := .bool u1) rfl
    · exact fun _ h => O_as rfl rfl h
    (try simp only [PT])
    refine list_end ?_
    refine then_norm ?_
    refine wp_ret ?_
    have hm := Option.some.inj hm
    subst hm
    replace H := H.dropAt 1 rfl; simp only [List.eraseIdx_cons_succ, List.eraseIdx_cons_zero] at H
    replace H := H.dropAt 0 rfl; simp only [List.eraseIdx_cons_succ, List.eraseIdx_cons_zero] at H
    exact ret1 rfl (rv_tmp rfl) rfl ⟨rfl, H⟩
  · replace hm := ifF hg1 hm
    refine wp_region_lit ?_
    apply seq_op (V := .pointer (some ⟨b2, 0, none⟩)) rfl
    · exact fun _ h => O_fld rfl Tryd.underlying108 rfl (Tryd.sizeOf3 _) rfl h
    (try simp only [PT])
    apply seq_op (V := .int .i64 a0.kind) rfl
    · exact fun _ h => L_1 1 _ _ rfl (Tryd.isAgg3 _) rfl H rfl rfl h
    (try simp only [PT])
    apply seq_op (V := .pointer (some ⟨b3, 0, none⟩)) rfl
    · exact fun _ h => O_fld rfl Tryd.underlying108 rfl (Tryd.sizeOf3 _) rfl h
    (try simp only [PT])
    apply seq_op (V := .int .i64 a1.kind) rfl
    · exact fun _ h => L_1 0 _ _ rfl (Tryd.isAgg3 _) rfl H rfl rfl h
    (try simp only [PT])
    apply seq_op (V := .bool (a0.kind == a1.kind)) rfl
    · exact fun _ h => O_bin rfl rfl rfl eqg_int r_eql h
    (try simp only [PT])
    apply seq_op (V := .bool (a0.kind == a1.kind)) rfl
    · exact fun _ h => O_mv rfl rfl h
    (try simp only [PT])
    refine seq_opg (c := (a0.kind == a1.kind)) (V := .pointer (some ⟨b2, 1, none⟩)) (by first | exact wanted_t rfl rfl rfl | exact wanted_vt rfl rfl rfl) ?_ ?_
    · intro hc Φ hΦ; refine O_fld rfl Tryd.underlying108 rfl (Tryd.sizeOf9 _) rfl ?_; exact hΦ
    (try simp only [PT])
    refine seq_opg (c := (a0.kind == a1.kind)) (V := .string a0.key) (by first | exact wanted_t rfl rfl rfl | exact wanted_vt rfl rfl rfl) ?_ ?_
    · intro hc Φ hΦ; (repeat (first | rw [vg_of hc] | rw [vg_of (and_l hc)] | rw [vg_of (and_l (and_l hc))] | rw [vg_of (and_l (and_l (and_l hc)))] | rw [vg_and hc])); refine L_1 1 _ _ rfl (Tryd.isAgg9 _) rfl H rfl rfl ?_; exact hΦ
    (try simp only [PT])
    refine seq_opg (c := (a0.kind == a1.kind)) (V := .pointer (some ⟨b3, 1, none⟩)) (by first | exact wanted_t rfl rfl rfl | exact wanted_vt rfl rfl rfl) ?_ ?_
    · intro hc Φ hΦ; refine O_fld rfl Tryd.underlying108 rfl (Tryd.sizeOf9 _) rfl ?_; exact hΦ
    (try simp only [PT])
    refine seq_opg (c := (a0.kind == a1.kind)) (V := .string a1.key) (by first | exact wanted_t rfl rfl rfl | exact wanted_vt rfl rfl rfl) ?_ ?_
    · intro hc Φ hΦ; (repeat (first | rw [vg_of hc] | rw [vg_of (and_l hc)] | rw [vg_of (and_l (and_l hc))] | rw [vg_of (and_l (and_l (and_l hc)))] | rw [vg_and hc])); refine L_1 0 _ _ rfl (Tryd.isAgg9 _) rfl H rfl rfl ?_; exact hΦ
    (try simp only [PT])
    refine seq_opg (c := (a0.kind == a1.kind)) (V := .bool (a0.key.toList == a1.key.toList)) (by first | exact wanted_t rfl rfl rfl | exact wanted_vt rfl rfl rfl) ?_ ?_
    · intro hc Φ hΦ; (repeat (first | rw [vg_of hc] | rw [vg_of (and_l hc)] | rw [vg_of (and_l (and_l hc))] | rw [vg_of (and_l (and_l (and_l hc)))] | rw [vg_and hc])); refine O_bin rfl rfl rfl eqg_str r_seq ?_; exact hΦ
    (try simp only [PT])
    apply seq_op (V := .bool ((a0.kind == a1.kind) && (a0.key.toList == a1.key.toList))) rfl
    · exact fun _ h => G_and _ _ _ rfl rfl rfl rfl h
    (try simp only [PT])
    apply seq_op (V := .bool ((a0.kind == a1.kind) && (a0.key.toList == a1.key.toList))) rfl
    · exact fun _ h => O_mv rfl rfl h
    (try simp only [PT])
    refine seq_opg (c := ((a0.kind == a1.kind) && (a0.key.toList == a1.key.toList))) (V := .pointer (some ⟨b2, 2, none⟩)) (by first | exact wanted_t rfl rfl rfl | exact wanted_vt rfl rfl rfl) ?_ ?_
    · intro hc Φ hΦ; refine O_fld rfl Tryd.underlying108 rfl (Tryd.sizeOf3 _) rfl ?_; exact hΦ
    (try simp only [PT])
    refine seq_opg (c := ((a0.kind == a1.kind) && (a0.key.toList == a1.key.toList))) (V := .int .i64 a0.value) (by first | exact wanted_t rfl rfl rfl | exact wanted_vt rfl rfl rfl) ?_ ?_
    · intro hc Φ hΦ; (repeat (first | rw [vg_of hc] | rw [vg_of (and_l hc)] | rw [vg_of (and_l (and_l hc))] | rw [vg_of (and_l (and_l (and_l hc)))] | rw [vg_and hc])); refine L_1 1 _ _ rfl (Tryd.isAgg3 _) rfl H rfl rfl ?_; exact hΦ
    (try simp only [PT])
    refine seq_opg (c := ((a0.kind == a1.kind) && (a0.key.toList == a1.key.toList))) (V := .pointer (some ⟨b3, 2, none⟩)) (by first | exact wanted_t rfl rfl rfl | exact wanted_vt rfl rfl rfl) ?_ ?_
    · intro hc Φ hΦ; refine O_fld rfl Tryd.underlying108 rfl (Tryd.sizeOf3 _) rfl ?_; exact hΦ
    (try simp only [PT])
    refine seq_opg (c := ((a0.kind == a1.kind) && (a0.key.toList == a1.key.toList))) (V := .int .i64 a1.value) (by first | exact wanted_t rfl rfl rfl | exact wanted_vt rfl rfl rfl) ?_ ?_
    · intro hc Φ hΦ; (repeat (first | rw [vg_of hc] | rw [vg_of (and_l hc)] | rw [vg_of (and_l (and_l hc))] | rw [vg_of (and_l (and_l (and_l hc)))] | rw [vg_and hc])); refine L_1 0 _ _ rfl (Tryd.isAgg3 _) rfl H rfl rfl ?_; exact hΦ
    (try simp only [PT])
    refine seq_opg (c := ((a0.kind == a1.kind) && (a0.key.toList == a1.key.toList))) (V := .bool (a0.value == a1.value)) (by first | exact wanted_t rfl rfl rfl | exact wanted_vt rfl rfl rfl) ?_ ?_
    · intro hc Φ hΦ; (repeat (first | rw [vg_of hc] | rw [vg_of (and_l hc)] | rw [vg_of (and_l (and_l hc))] | rw [vg_of (and_l (and_l (and_l hc)))] | rw [vg_and hc])); refine O_bin rfl rfl rfl eqg_int r_eql ?_; exact hΦ
    (try simp only [PT])
    apply seq_op (V := .bool (((a0.kind == a1.kind) && (a0.key.toList == a1.key.toList)) && (a0.value == a1.value))) rfl
    · exact fun _ h => G_and _ _ _ rfl rfl rfl rfl h
    (try simp only [PT])
    apply seq_op (V := .bool (((a0.kind == a1.kind) && (a0.key.toList == a1.key.toList)) && (a0.value == a1.value))) rfl
    · exact fun _ h => O_mv rfl rfl h
    (try simp only [PT])
    refine seq_opg (c := (((a0.kind == a1.kind) && (a0.key.toList == a1.key.toList)) && (a0.value == a1.value))) (V := .pointer (some ⟨b2, 4, none⟩)) (by first | exact wanted_t rfl rfl rfl | exact wanted_vt rfl rfl rfl) ?_ ?_
    · intro hc Φ hΦ; refine O_fld rfl Tryd.underlying108 rfl (Tryd.sizeOf4 _) rfl ?_; exact hΦ
    (try simp only [PT])
    refine seq_opg (c := (((a0.kind == a1.kind) && (a0.key.toList == a1.key.toList)) && (a0.value == a1.value))) (V := .bool a0.has) (by first | exact wanted_t rfl rfl rfl | exact wanted_vt rfl rfl rfl) ?_ ?_
    · intro hc Φ hΦ; (repeat (first | rw [vg_of hc] | rw [vg_of (and_l hc)] | rw [vg_of (and_l (and_l hc))] | rw [vg_of (and_l (and_l (and_l hc)))] | rw [vg_and hc])); refine L_1 1 _ _ rfl (Tryd.isAgg4 _) rfl H rfl rfl ?_; exact hΦ
    (try simp only [PT])
    refine seq_opg (c := (((a0.kind == a1.kind) && (a0.key.toList == a1.key.toList)) && (a0.value == a1.value))) (V := .pointer (some ⟨b3, 4, none⟩)) (by first | exact wanted_t rfl rfl rfl | exact wanted_vt rfl rfl rfl) ?_ ?_
    · intro hc Φ hΦ; refine O_fld rfl Tryd.underlying108 rfl (Tryd.sizeOf4 _) rfl ?_; exact hΦ
    (try simp only [PT])
    refine seq_opg (c := (((a0.kind == a1.kind) && (a0.key.toList == a1.key.toList)) && (a0.value == a1.value))) (V := .bool a1.has) (by first | exact wanted_t rfl rfl rfl | exact wanted_vt rfl rfl rfl) ?_ ?_
    · intro hc Φ hΦ; (repeat (first | rw [vg_of hc] | rw [vg_of (and_l hc)] | rw [vg_of (and_l (and_l hc))] | rw [vg_of (and_l (and_l (and_l hc)))] | rw [vg_and hc])); refine L_1 0 _ _ rfl (Tryd.isAgg4 _) rfl H rfl rfl ?_; exact hΦ
    (try simp only [PT])
    refine seq_opg (c := (((a0.kind == a1.kind) && (a0.key.toList == a1.key.toList)) && (a0.value == a1.value))) (V := .bool (a0.has == a1.has)) (by first | exact wanted_t rfl rfl rfl | exact wanted_vt rfl rfl rfl) ?_ ?_
    · intro hc Φ hΦ; (repeat (first | rw [vg_of hc] | rw [vg_of (and_l hc)] | rw [vg_of (and_l (and_l hc))] | rw [vg_of (and_l (and_l (and_l hc)))] | rw [vg_and hc])); refine O_bin rfl rfl rfl eqg_bool (r_beq Tryd.underlying4) ?_; exact hΦ
    (try simp only [PT])
    apply seq_op (V := .bool ((((a0.kind == a1.kind) && (a0.key.toList == a1.key.toList)) && (a0.value == a1.value)) && (a0.has == a1.has))) rfl
    · exact fun _ h => G_and _ _ _ rfl rfl rfl rfl h
    (try simp only [PT])
    apply seq_op (V := .bool ((((a0.kind == a1.kind) && (a0.key.toList == a1.key.toList)) && (a0.value == a1.value)) && (a0.has == a1.has))) rfl
    · exact fun _ h => O_mv rfl rfl h
    (try simp only [PT])
    refine seq_opg (c := ((((a0.kind == a1.kind) && (a0.key.toList == a1.key.toList)) && (a0.value == a1.value)) && (a0.has == a1.has))) (V := .pointer (some ⟨b2, 5, none⟩)) (by first | exact wanted_t rfl rfl rfl | exact wanted_vt rfl rfl rfl) ?_ ?_
    · intro hc Φ hΦ; refine O_fld rfl Tryd.underlying108 rfl (Tryd.sizeOf4 _) rfl ?_; exact hΦ
    (try simp only [PT])
    refine seq_opg (c := ((((a0.kind == a1.kind) && (a0.key.toList == a1.key.toList)) && (a0.value == a1.value)) && (a0.has == a1.has))) (V := .bool a0.isNil) (by first | exact wanted_t rfl rfl rfl | exact wanted_vt rfl rfl rfl) ?_ ?_
    · intro hc Φ hΦ; (repeat (first | rw [vg_of hc] | rw [vg_of (and_l hc)] | rw [vg_of (and_l (and_l hc))] | rw [vg_of (and_l (and_l (and_l hc)))] | rw [vg_and hc])); refine L_1 1 _ _ rfl (Tryd.isAgg4 _) rfl H rfl rfl ?_; exact hΦ
    (try simp only [PT])
    refine seq_opg (c := ((((a0.kind == a1.kind) && (a0.key.toList == a1.key.toList)) && (a0.value == a1.value)) && (a0.has == a1.has))) (V := .pointer (some ⟨b3, 5, none⟩)) (by first | exact wanted_t rfl rfl rfl | exact wanted_vt rfl rfl rfl) ?_ ?_
    · intro hc Φ hΦ; refine O_fld rfl Tryd.underlying108 rfl (Tryd.sizeOf4 _) rfl ?_; exact hΦ
    (try simp only [PT])
    refine seq_opg (c := ((((a0.kind == a1.kind) && (a0.key.toList == a1.key.toList)) && (a0.value == a1.value)) && (a0.has == a1.has))) (V := .bool a1.isNil) (by first | exact wanted_t rfl rfl rfl | exact wanted_vt rfl rfl rfl) ?_ ?_
    · intro hc Φ hΦ; (repeat (first | rw [vg_of hc] | rw [vg_of (and_l hc)] | rw [vg_of (and_l (and_l hc))] | rw [vg_of (and_l (and_l (and_l hc)))] | rw [vg_and hc])); refine L_1 0 _ _ rfl (Tryd.isAgg4 _) rfl H rfl rfl ?_; exact hΦ
    (try simp only [PT])
    refine seq_opg (c := ((((a0.kind == a1.kind) && (a0.key.toList == a1.key.toList)) && (a0.value == a1.value)) && (a0.has == a1.has))) (V := .bool (a0.isNil == a1.isNil)) (by first | exact wanted_t rfl rfl rfl | exact wanted_vt rfl rfl rfl) ?_ ?_
    · intro hc Φ hΦ; (repeat (first | rw [vg_of hc] | rw [vg_of (and_l hc)] | rw [vg_of (and_l (and_l hc))] | rw [vg_of (and_l (and_l (and_l hc)))] | rw [vg_and hc])); refine O_bin rfl rfl rfl eqg_bool (r_beq Tryd.underlying4) ?_; exact hΦ
    (try simp only [PT])
    apply seq_op (V := .bool (((((a0.kind == a1.kind) && (a0.key.toList == a1.key.toList)) && (a0.value == a1.value)) && (a0.has == a1.has)) && (a0.isNil == a1.isNil))) rfl
    · exact fun _ h => G_and _ _ _ rfl rfl rfl rfl h
    (try simp only [PT])
    apply seq_op (V := .bool (((((a0.kind == a1.kind) && (a0.key.toList == a1.key.toList)) && (a0.value == a1.value)) && (a0.has == a1.has)) && (a0.isNil == a1.isNil))) rfl
    · exact fun _ h => O_mv rfl rfl h
    (try simp only [PT])
    refine seq_skip ((wanted_t rfl rfl rfl).trans hg1) ?_
    (try simp only [PT])
    refine seq_skip ((wanted_t rfl rfl rfl).trans hg1) ?_
    (try simp only [PT])
    refine seq_skip ((wanted_t rfl rfl rfl).trans hg1) ?_
    (try simp only [PT])
    refine seq_skip ((wanted_t rfl rfl rfl).trans hg1) ?_
    (try simp only [PT])
    refine seq_skip ((wanted_t rfl rfl rfl).trans hg1) ?_
    (try simp only [PT])
    apply seq_op (V := .bool false) rfl
    · exact fun _ h => O_pickF rfl rfl hg1 rfl h
    (try simp only [PT])
    apply seq_op (V := .bool false) rfl
    · exact fun _ h => O_as rfl rfl h
    (try simp only [PT])
    refine list_end ?_
    refine then_norm ?_
    refine wp_ret ?_
    have hm := Option.some.inj hm
    subst hm
    replace H := H.dropAt 1 rfl; simp only [List.eraseIdx_cons_succ, List.eraseIdx_cons_zero] at H
    replace H := H.dropAt 0 rfl; simp only [List.eraseIdx_cons_succ, List.eraseIdx_cons_zero] at H
    exact ret1 rfl (rv_tmp rfl) rfl ⟨rfl, H⟩
def slices_EqualFunc_Op_assayerplain_SameOps_1_l4 (a1 : List Op') : Nat → List Op' → Option ((Bool ⊕ Unit))
  | k4, []  => some (.inr ())
  | k4, x4 :: r4 => (rdI a1 (k4 : Int)).bind fun u1 => (assayerplain_SameOps_1_f x4 u1).bind fun u2 => if (!u2) = true then (some (.inl false)) else (slices_EqualFunc_Op_assayerplain_SameOps_1_l4 a1 (k4 + 1) r4)

def slices_EqualFunc_Op_assayerplain_SameOps_1_f (a0 : List Op') (a1 : List Op') : Option Bool := if ((a0.length : Int) != (a1.length : Int)) = true then (some false) else ((slices_EqualFunc_Op_assayerplain_SameOps_1_l4 a1 0 a0).bind fun | .inl z4_r => (some z4_r) | .inr () => (some true))

set_option maxHeartbeats 4000000 in
theorem slices_EqualFunc_Op_assayerplain_SameOps_1_w {E : World} {s : SH} {L : List HP} {w : World} {a0 : List Op'} {a1 : List Op'} {A_p0 : Option Addr} {c_p0 : Nat} (h_p0 : kOp.Sl s (.slice A_p0 a0.length c_p0) a0) {A_p1 : Option Addr} {c_p1 : Nat} (h_p1 : kOp.Sl s (.slice A_p1 a1.length c_p1) a1) {R : Bool} (hm : slices_EqualFunc_Op_assayerplain_SameOps_1_f a0 a1 = some R) (H : Holds E s (L) w) :
    Calls Tryd.prog 123 #[.slice A_p0 a0.length c_p0, .slice A_p1 a1.length c_p1, .func (.func 124) #[] #[]] w fun e w' => e = .returned (.bool R) ∧ Holds E s (L) w' := by
  unfold slices_EqualFunc_Op_assayerplain_SameOps_1_f at hm
  go_enter Tryd.func123, Tryd.ntmps123
  refine wp_seq ?_
  refine wp_region_lit ?_
  apply seq_op (V := .bool false) rfl
  · exact fun _ h => O_as rfl rfl h
  (try simp only [PT])
  refine list_end ?_
  refine then_norm ?_
  refine wp_seq ?_
  refine wp_seq ?_
  refine wp_region_lit ?_
  apply seq_op (V := .slice A_p0 a0.length c_p0) rfl
  · exact fun _ h => O_mv rfl rfl h
  (try simp only [PT])
  apply seq_op (V := .int .i64 (a0.length : Int)) rfl
  · exact fun _ h => O_len rfl Tryd.underlying71 rfl h
  (try simp only [PT])
  apply seq_op (V := .slice A_p1 a1.length c_p1) rfl
  · exact fun _ h => O_mv rfl rfl h
  (try simp only [PT])
  apply seq_op (V := .int .i64 (a1.length : Int)) rfl
  · exact fun _ h => O_len rfl Tryd.underlying71 rfl h
  (try simp only [PT])
  apply seq_op (V := .bool ((a0.length : Int) != (a1.length : Int))) rfl
  · exact fun _ h => O_bin rfl rfl rfl eqg_int r_neq h
  (try simp only [PT])
  refine list_end ?_
  refine then_norm ?_
  refine wp_cond_split rfl (fun hc => ?_) (fun hc => ?_)
  · have hc1 := hc
    clear hc
    replace hm := ifT hc1 hm
    refine wp_seq ?_
    refine wp_region_lit ?_
    apply seq_op (V := .bool false) rfl
    · exact fun _ h => O_as rfl rfl h
    (try simp only [PT])
    refine list_end ?_
    refine then_norm ?_
    refine wp_ret ?_
    refine then_ret ?_
    have hm := Option.some.inj hm
    subst hm
    exact ret1 rfl (rv_tmp rfl) rfl ⟨rfl, H⟩
  · have hc1 := hc
    clear hc
    replace hm := ifF hc1 hm
    refine wp_skip ?_
    refine then_norm ?_
    refine wp_seq ?_
    refine wp_seq ?_
    refine wp_region_lit ?_
    apply seq_op (V := .slice A_p0 a0.length c_p0) rfl
    · exact fun _ h => O_mv rfl rfl h
    (try simp only [PT])
    apply seq_op (V := .int .i64 (a0.length : Int)) rfl
    · exact fun _ h => O_len rfl Tryd.underlying71 rfl h
    (try simp only [PT])
    apply seq_op (V := .int .i64 0) rfl
    · exact fun _ h => O_mv rfl rfl h
    (try simp only [PT])
    refine list_end ?_
    refine then_norm ?_
    refine wp_block ?_
    obtain ⟨R4, hq4, hm⟩ := bs hm
    have hn4 := Nat.le_trans (len_le (d := kOp) h_p0 (by decide)) (by decide : (140737488355328 : Nat) ≤ 9223372036854775807)
    refine wp_loopF [none, none, none, none, none, none, some 6, some 7, some 8, some 9, none, none, none, none, none, none, none, some 17, some 18, some 19, some 20, some 21, some 22, some 23, some 24, some 25, some 26, some 27, some 28, some 29, some 30, some 31] rfl (by simp) (fun f w => ∃ (k4 : Nat) (r4 : List Op'), a0.drop k4 = r4 ∧ f 17 = .int .i64 (k4 : Int) ∧ slices_EqualFunc_Op_assayerplain_SameOps_1_l4 a1 k4 r4 = some R4 ∧ Holds E s (L) w) (fun f w => a0.length - (intOf (f 17)).toNat) ?_ ?_
    · exact ⟨0, a0, rfl, rfl, hq4, H⟩
    · clear H
      intro f w hI
      obtain ⟨k4, r4, hd4, hf17, hq4', H⟩ := hI
      clear hq4; have hq4 := hq4'; clear hq4'
      simp only [ovm, mixM]
      simp only [hf17]; clear hf17
      refine wp_seq ?_
      refine wp_region_lit ?_
      apply seq_op (V := .bool (decide ((k4 : Int) < (a0.length : Int)))) rfl
      · exact fun _ h => O_bin rfl rfl rfl eqg_int r_lss h
      (try simp only [PT])
      refine list_end ?_
      refine then_norm ?_
      refine wp_seq ?_
      refine wp_cond_split rfl (fun hc => ?_) (fun hc => ?_)
      · have hc2 := hc
        clear hc
        obtain ⟨x4, r4', rfl, hd4', hd4'', hl4⟩ := rng_t hd4 hc2
        rw [slices_EqualFunc_Op_assayerplain_SameOps_1_l4] at hq4
        refine wp_skip ?_
        refine then_norm ?_
        refine wp_seq ?_
        refine wp_block ?_
        refine wp_seq ?_
        obtain ⟨be1, oe1, A3e1, c3e1, rfl, hCe1, h0e1, h1e1, h2e1, h3e1⟩ := kOp_el h_p0 hd4'
        refine wp_region_lit ?_
        apply seq_op (V := .int .i64 (k4 : Int)) rfl
        · exact fun _ h => O_mv rfl rfl h
        (try simp only [PT])
        apply seq_op (V := .pointer (some ⟨be1, oe1 + k4 * 6, none⟩)) rfl
        · exact fun _ h => O_ix rfl Tryd.underlying71 (Tryd.sizeOf108 _) rfl rfl rfl hl4 h
        (try simp only [PT])
        apply seq_op (V := .agg #[.int .i64 x4.kind, .string x4.key, .int .i64 x4.value, .slice A3e1 x4.list.length c3e1, .bool x4.has, .bool x4.isNil]) rfl
        · exact fun _ h => G_sN _ _ rfl (Tryd.isAgg108 _) rfl H hCe1 (Tryd.sizeOf108 _) h
        (try simp only [PT])
        refine OpG.list rfl ?_; refine G_alloc 108 rfl (Tryd.zeroValue108 _) H ?_; clear H; intro b8 w1 H; (try simp only [Value.cells] at H)
        (try simp only [PT])
        apply seq_op (V := .int .i64 (k4 : Int)) rfl
        · exact fun _ h => O_as rfl rfl h
        (try simp only [PT])
        refine OpG.list rfl ?_; refine G_setNi 0 (c := [.int .i64 x4.kind, .string x4.key, .int .i64 x4.value, .slice A3e1 x4.list.length c3e1, .bool x4.has, .bool x4.isNil]) _ _ _ rfl (Tryd.sizeOf108 _) rfl rfl (by simp [Value.oneCell']) H rfl rfl ?_; clear H; intro w1 H; simp only [List.set_cons_succ, List.set_cons_zero] at H
        (try simp only [PT])
        refine list_end ?_
        refine then_norm ?_
        refine wp_seq ?_
        obtain ⟨u1, gx1, hq4⟩ := bs hq4
        obtain ⟨kk1, gk1, gl1, gd1⟩ := rdI_some gx1
        obtain ⟨be2, oe2, A3e2, c3e2, rfl, hCe2, h0e2, h1e2, h2e2, h3e2⟩ := kOp_el h_p1 gd1
        refine wp_region_lit ?_
        apply seq_op (V := .slice (some ⟨be2, oe2, none⟩) a1.length c_p1) rfl
        · exact fun _ h => O_mv rfl rfl h
        (try simp only [PT])
        apply seq_op (V := .int .i64 (k4 : Int)) rfl
        · exact fun _ h => O_mv rfl rfl h
        (try simp only [PT])
        apply seq_op (V := .pointer (some ⟨be2, oe2 + kk1 * 6, none⟩)) rfl
        · exact fun _ h => O_ix rfl Tryd.underlying71 (Tryd.sizeOf108 _) rfl rfl gk1 gl1 h
        (try simp only [PT])
        apply seq_op (V := .agg #[.int .i64 u1.kind, .string u1.key, .int .i64 u1.value, .slice A3e2 u1.list.length c3e2, .bool u1.has, .bool u1.isNil]) rfl
        · exact fun _ h => G_sN _ _ rfl (Tryd.isAgg108 _) rfl H hCe2 (Tryd.sizeOf108 _) h
        (try simp only [PT])
        refine OpG.list rfl ?_; refine G_alloc 108 rfl (Tryd.zeroValue108 _) H ?_; clear H; intro b9 w1 H; (try simp only [Value.cells] at H)
        (try simp only [PT])
        refine OpG.list rfl ?_; refine G_setNi 0 (c := [.int .i64 u1.kind, .string u1.key, .int .i64 u1.value, .slice A3e2 u1.list.length c3e2, .bool u1.has, .bool u1.isNil]) _ _ _ rfl (Tryd.sizeOf108 _) rfl rfl (by simp [Value.oneCell']) H rfl rfl ?_; clear H; intro w1 H; simp only [List.set_cons_succ, List.set_cons_zero] at H
        (try simp only [PT])
        refine list_end ?_
        refine then_norm ?_
        refine wp_seq ?_
        obtain ⟨u2, gx2, hq4⟩ := bs hq4
        refine wp_region_lit ?_
        apply seq_op (V := .func (.func 124) #[] #[]) rfl
        · exact fun _ h => O_mv rfl rfl h
        (try simp only [PT])
        apply seq_op (V := .agg #[.int .i64 x4.kind, .string x4.key, .int .i64 x4.value, .slice A3e1 x4.list.length c3e1, .bool x4.has, .bool x4.isNil]) rfl
        · exact fun _ h => G_pNi 1 _ _ rfl (Tryd.isAgg108 _) rfl H rfl (Tryd.sizeOf108 _) h
        (try simp only [PT])
        apply seq_op (V := .agg #[.int .i64 u1.kind, .string u1.key, .int .i64 u1.value, .slice A3e2 u1.list.length c3e2, .bool u1.has, .bool u1.isNil]) rfl
        · exact fun _ h => G_pNi 0 _ _ rfl (Tryd.isAgg108 _) rfl H rfl (Tryd.sizeOf108 _) h
        (try simp only [PT])
        refine seq_call rfl (fun Φ hΦ => by refine O_callv2 (args := #[.agg #[.int .i64 x4.kind, .string x4.key, .int .i64 x4.value, .slice A3e1 x4.list.length c3e1, .bool x4.has, .bool x4.isNil], .agg #[.int .i64 u1.kind, .string u1.key, .int .i64 u1.value, .slice A3e2 u1.list.length c3e2, .bool u1.has, .bool u1.isNil]]) (v1 := .agg #[.int .i64 x4.kind, .string x4.key, .int .i64 x4.value, .slice A3e1 x4.list.length c3e1, .bool x4.has, .bool x4.isNil]) (v2 := .agg #[.int .i64 u1.kind, .string u1.key, .int .i64 u1.value, .slice A3e2 u1.list.length c3e2, .bool u1.has, .bool u1.isNil]) rfl Tryd.func124 rfl rfl rfl rfl rfl (by simp only [Array.append_empty]) hΦ) (assayerplain_SameOps_1_w (a0 := x4) (h_p0_list := h3e1) (a1 := u1) (h_p1_list := h3e2) (hm := gx2) (H := H)) ?_
        clear H
        rintro e w1 ⟨rfl, H⟩; refine ⟨_, rfl, ?_⟩
        (try simp only [PT])
        apply seq_op (V := .bool (!u2)) rfl
        · exact fun _ h => O_not rfl rfl h
        (try simp only [PT])
        refine list_end ?_
        refine then_norm ?_
        refine wp_cond_split rfl (fun hc => ?_) (fun hc => ?_)
        · have hc3 := hc
          clear hc
          replace hq4 := ifT hc3 hq4
          refine wp_seq ?_
          refine wp_region_lit ?_
          apply seq_op (V := .bool false) rfl
          · exact fun _ h => O_as rfl rfl h
          (try simp only [PT])
          refine list_end ?_
          refine then_norm ?_
          refine wp_ret ?_
          refine block_ret ?_
          refine then_ret ?_
          refine then_ret ?_
          refine block_ret ?_
          refine then_ret ?_
          have hq4 := Option.some.inj hq4
          subst hq4
          (try dsimp only at hm)
          have hm := Option.some.inj hm
          subst hm
          replace H := H.dropAt 1 rfl; simp only [List.eraseIdx_cons_succ, List.eraseIdx_cons_zero] at H
          replace H := H.dropAt 0 rfl; simp only [List.eraseIdx_cons_succ, List.eraseIdx_cons_zero] at H
          exact ret1 rfl (rv_tmp rfl) rfl ⟨rfl, H⟩
        · have hc3 := hc
          clear hc
          replace hq4 := ifF hc3 hq4
          refine wp_skip ?_
          refine block_norm ?_
          refine then_norm ?_
          refine wp_region_lit ?_
          apply seq_op (V := .int .i64 (IntKind.i64.wrap ((k4 : Int) + 1))) rfl
          · exact fun _ h => O_bin rfl rfl rfl eqg_int r_add h
          (try simp only [PT])
          apply seq_op (V := .int .i64 (IntKind.i64.wrap ((k4 : Int) + 1))) rfl
          · exact fun _ h => O_mv rfl rfl h
          (try simp only [PT])
          refine list_end ?_
          refine then_norm ?_
          replace H := H.drop
          replace H := H.drop
          refine ⟨⟨⟨rfl, rfl, rfl, rfl, rfl, rfl, rfl, rfl, rfl, rfl, rfl, rfl, rfl, rfl⟩, rfl⟩, ⟨k4 + 1, _, hd4'', wrap_succ hl4 hn4, hq4, H⟩, ?_⟩
          exact meas_succ hl4 hn4
      · have hc2 := hc
        clear hc
        obtain rfl := rng_f hd4 hc2
        rw [slices_EqualFunc_Op_assayerplain_SameOps_1_l4] at hq4
        refine wp_exit ?_
        refine then_exit ?_
        refine then_exit ?_
        have hq4 := Option.some.inj hq4
        subst hq4
        (try dsimp only at hm)
        refine block_exit ?_
        refine then_norm ?_
        refine wp_seq ?_
        refine wp_region_lit ?_
        apply seq_op (V := .bool true) rfl
        · exact fun _ h => O_as rfl rfl h
        (try simp only [PT])
        refine list_end ?_
        refine then_norm ?_
        refine wp_ret ?_
        have hm := Option.some.inj hm
        subst hm
        exact ret1 rfl (rv_tmp rfl) rfl ⟨rfl, H⟩
def assayerplain_SameOps_f (a0 : List Op') (a1 : List Op') : Option Bool := (slices_EqualFunc_Op_assayerplain_SameOps_1_f a0 a1).bind fun u1 => some u1

set_option maxHeartbeats 4000000 in
theorem assayerplain_SameOps_w {E : World} {s : SH} {L : List HP} {w : World} {a0 : List Op'} {a1 : List Op'} {A_p0 : Option Addr} {c_p0 : Nat} (h_p0 : kOp.Sl s (.slice A_p0 a0.length c_p0) a0) {A_p1 : Option Addr} {c_p1 : Nat} (h_p1 : kOp.Sl s (.slice A_p1 a1.length c_p1) a1) {R : Bool} (hm : assayerplain_SameOps_f a0 a1 = some R) (H : Holds E s (L) w) :
    Calls Tryd.prog 77 #[.slice A_p0 a0.length c_p0, .slice A_p1 a1.length c_p1] w fun e w' => e = .returned (.bool R) ∧ Holds E s (L) w' := by
  unfold assayerplain_SameOps_f at hm
  go_enter Tryd.func77, Tryd.ntmps77
  refine wp_seq ?_
  refine wp_region_lit ?_
  apply seq_op (V := .bool false) rfl
  · exact fun _ h => O_as rfl rfl h
  (try simp only [PT])
  refine list_end ?_
  refine then_norm ?_
  refine wp_seq ?_
  obtain ⟨u1, gx1, hm⟩ := bs hm
  refine wp_region_lit ?_
  apply seq_op (V := .slice A_p0 a0.length c_p0) rfl
  · exact fun _ h => O_mv rfl rfl h
  (try simp only [PT])
  apply seq_op (V := .slice A_p1 a1.length c_p1) rfl
  · exact fun _ h => O_mv rfl rfl h
  (try simp only [PT])
  refine seq_call rfl (fun Φ hΦ => by refine O_call3 rfl Tryd.func123 rfl rfl rfl rfl rfl hΦ) (slices_EqualFunc_Op_assayerplain_SameOps_1_w (a0 := a0) (h_p0 := h_p0) (a1 := a1) (h_p1 := h_p1) (hm := gx1) (H := H)) ?_
  clear H
  rintro e w1 ⟨rfl, H⟩; refine ⟨_, rfl, ?_⟩
  (try simp only [PT])
  apply seq_op (V := .bool u1) rfl
  · exact fun _ h => O_as rfl rfl h
  (try simp only [PT])
  refine list_end ?_
  refine then_norm ?_
  refine wp_ret ?_
  have hm := Option.some.inj hm
  subst hm
  exact ret1 rfl (rv_tmp rfl) rfl ⟨rfl, H⟩
def assayerplain_SameTxn_f (a0 : Txn) (a1 : Txn) : Option Bool := if ((((a0.proc == a1.proc) && (a0.state == a1.state)) && (a0.from_ == a1.from_)) && (a0.to == a1.to)) = true then ((assayerplain_SameOps_f a0.ops a1.ops).bind fun u1 => some u1) else (some false)

set_option maxHeartbeats 4000000 in
theorem assayerplain_SameTxn_w {E : World} {s : SH} {L : List HP} {w : World} {a0 : Txn} {a1 : Txn} {A_p0_ops : Option Addr} {c_p0_ops : Nat} (h_p0_ops : kOp.Sl s (.slice A_p0_ops a0.ops.length c_p0_ops) a0.ops) {A_p1_ops : Option Addr} {c_p1_ops : Nat} (h_p1_ops : kOp.Sl s (.slice A_p1_ops a1.ops.length c_p1_ops) a1.ops) {R : Bool} (hm : assayerplain_SameTxn_f a0 a1 = some R) (H : Holds E s (L) w) :
    Calls Tryd.prog 74 #[.agg #[.int .i64 a0.proc, .int .i64 a0.state, .int .i64 a0.from_, .int .i64 a0.to, .slice A_p0_ops a0.ops.length c_p0_ops], .agg #[.int .i64 a1.proc, .int .i64 a1.state, .int .i64 a1.from_, .int .i64 a1.to, .slice A_p1_ops a1.ops.length c_p1_ops]] w fun e w' => e = .returned (.bool R) ∧ Holds E s (L) w' := by
  unfold assayerplain_SameTxn_f at hm
  go_enter Tryd.func74, Tryd.ntmps74
  refine wp_seq ?_
  refine wp_region_lit ?_
  refine OpG.list rfl ?_; refine B_x 75 _ rfl (v := .agg #[.int .i64 a0.proc, .int .i64 a0.state, .int .i64 a0.from_, .int .i64 a0.to, .slice A_p0_ops a0.ops.length c_p0_ops]) rfl H ?_; clear H; intro b2 w1 H; (try simp only [Value.cells] at H)
  (try simp only [PT])
  refine OpG.list rfl ?_; refine B_x 75 _ rfl (v := .agg #[.int .i64 a1.proc, .int .i64 a1.state, .int .i64 a1.from_, .int .i64 a1.to, .slice A_p1_ops a1.ops.length c_p1_ops]) rfl H ?_; clear H; intro b3 w1 H; (try simp only [Value.cells] at H)
  (try simp only [PT])
  apply seq_op (V := .bool false) rfl
  · exact fun _ h => O_as rfl rfl h
  (try simp only [PT])
  refine list_end ?_
  refine then_norm ?_
  refine wp_seq ?_
  rcases Bool.eq_false_or_eq_true ((((a0.proc == a1.proc) && (a0.state == a1.state)) && (a0.from_ == a1.from_)) && (a0.to == a1.to)) with hg1 | hg1
  · replace hm := ifT hg1 hm
    obtain ⟨u1, gx1, hm⟩ := bs hm
    refine wp_region_lit ?_
    apply seq_op (V := .pointer (some ⟨b2, 0, none⟩)) rfl
    · exact fun _ h => O_fld rfl Tryd.underlying75 rfl (Tryd.sizeOf3 _) rfl h
    (try simp only [PT])
    apply seq_op (V := .int .i64 a0.proc) rfl
    · exact fun _ h => L_1 1 _ _ rfl (Tryd.isAgg3 _) rfl H rfl rfl h
    (try simp only [PT])
    apply seq_op (V := .pointer (some ⟨b3, 0, none⟩)) rfl
    · exact fun _ h => O_fld rfl Tryd.underlying75 rfl (Tryd.sizeOf3 _) rfl h
    (try simp only [PT])
    apply seq_op (V := .int .i64 a1.proc) rfl
    · exact fun _ h => L_1 0 _ _ rfl (Tryd.isAgg3 _) rfl H rfl rfl h
    (try simp only [PT])
    apply seq_op (V := .bool (a0.proc == a1.proc)) rfl
    · exact fun _ h => O_bin rfl rfl rfl eqg_int r_eql h
    (try simp only [PT])
    apply seq_op (V := .bool (a0.proc == a1.proc)) rfl
    · exact fun _ h => O_mv rfl rfl h
    (try simp only [PT])
    refine seq_opg (c := (a0.proc == a1.proc)) (V := .pointer (some ⟨b2, 1, none⟩)) (by first | exact wanted_t rfl rfl rfl | exact wanted_vt rfl rfl rfl) ?_ ?_
    · intro hc Φ hΦ; refine O_fld rfl Tryd.underlying75 rfl (Tryd.sizeOf3 _) rfl ?_; exact hΦ
    (try simp only [PT])
    refine seq_opg (c := (a0.proc == a1.proc)) (V := .int .i64 a0.state) (by first | exact wanted_t rfl rfl rfl | exact wanted_vt rfl rfl rfl) ?_ ?_
    · intro hc Φ hΦ; (repeat (first | rw [vg_of hc] | rw [vg_of (and_l hc)] | rw [vg_of (and_l (and_l hc))] | rw [vg_of (and_l (and_l (and_l hc)))] | rw [vg_and hc])); refine L_1 1 _ _ rfl (Tryd.isAgg3 _) rfl H rfl rfl ?_; exact hΦ
    (try simp only [PT])
    refine seq_opg (c := (a0.proc == a1.proc)) (V := .pointer (some ⟨b3, 1, none⟩)) (by first | exact wanted_t rfl rfl rfl | exact wanted_vt rfl rfl rfl) ?_ ?_
    · intro hc Φ hΦ; refine O_fld rfl Tryd.underlying75 rfl (Tryd.sizeOf3 _) rfl ?_; exact hΦ
    (try simp only [PT])
    refine seq_opg (c := (a0.proc == a1.proc)) (V := .int .i64 a1.state) (by first | exact wanted_t rfl rfl rfl | exact wanted_vt rfl rfl rfl) ?_ ?_
    · intro hc Φ hΦ; (repeat (first | rw [vg_of hc] | rw [vg_of (and_l hc)] | rw [vg_of (and_l (and_l hc))] | rw [vg_of (and_l (and_l (and_l hc)))] | rw [vg_and hc])); refine L_1 0 _ _ rfl (Tryd.isAgg3 _) rfl H rfl rfl ?_; exact hΦ
    (try simp only [PT])
    refine seq_opg (c := (a0.proc == a1.proc)) (V := .bool (a0.state == a1.state)) (by first | exact wanted_t rfl rfl rfl | exact wanted_vt rfl rfl rfl) ?_ ?_
    · intro hc Φ hΦ; (repeat (first | rw [vg_of hc] | rw [vg_of (and_l hc)] | rw [vg_of (and_l (and_l hc))] | rw [vg_of (and_l (and_l (and_l hc)))] | rw [vg_and hc])); refine O_bin rfl rfl rfl eqg_int r_eql ?_; exact hΦ
    (try simp only [PT])
    apply seq_op (V := .bool ((a0.proc == a1.proc) && (a0.state == a1.state))) rfl
    · exact fun _ h => G_and _ _ _ rfl rfl rfl rfl h
    (try simp only [PT])
    apply seq_op (V := .bool ((a0.proc == a1.proc) && (a0.state == a1.state))) rfl
    · exact fun _ h => O_mv rfl rfl h
    (try simp only [PT])
    refine seq_opg (c := ((a0.proc == a1.proc) && (a0.state == a1.state))) (V := .pointer (some ⟨b2, 2, none⟩)) (by first | exact wanted_t rfl rfl rfl | exact wanted_vt rfl rfl rfl) ?_ ?_
    · intro hc Φ hΦ; refine O_fld rfl Tryd.underlying75 rfl (Tryd.sizeOf3 _) rfl ?_; exact hΦ
    (try simp only [PT])
    refine seq_opg (c := ((a0.proc == a1.proc) && (a0.state == a1.state))) (V := .int .i64 a0.from_) (by first | exact wanted_t rfl rfl rfl | exact wanted_vt rfl rfl rfl) ?_ ?_
    · intro hc Φ hΦ; (repeat (first | rw [vg_of hc] | rw [vg_of (and_l hc)] | rw [vg_of (and_l (and_l hc))] | rw [vg_of (and_l (and_l (and_l hc)))] | rw [vg_and hc])); refine L_1 1 _ _ rfl (Tryd.isAgg3 _) rfl H rfl rfl ?_; exact hΦ
    (try simp only [PT])
    refine seq_opg (c := ((a0.proc == a1.proc) && (a0.state == a1.state))) (V := .pointer (some ⟨b3, 2, none⟩)) (by first | exact wanted_t rfl rfl rfl | exact wanted_vt rfl rfl rfl) ?_ ?_
    · intro hc Φ hΦ; refine O_fld rfl Tryd.underlying75 rfl (Tryd.sizeOf3 _) rfl ?_; exact hΦ
    (try simp only [PT])
    refine seq_opg (c := ((a0.proc == a1.proc) && (a0.state == a1.state))) (V := .int .i64 a1.from_) (by first | exact wanted_t rfl rfl rfl | exact wanted_vt rfl rfl rfl) ?_ ?_
    · intro hc Φ hΦ; (repeat (first | rw [vg_of hc] | rw [vg_of (and_l hc)] | rw [vg_of (and_l (and_l hc))] | rw [vg_of (and_l (and_l (and_l hc)))] | rw [vg_and hc])); refine L_1 0 _ _ rfl (Tryd.isAgg3 _) rfl H rfl rfl ?_; exact hΦ
    (try simp only [PT])
    refine seq_opg (c := ((a0.proc == a1.proc) && (a0.state == a1.state))) (V := .bool (a0.from_ == a1.from_)) (by first | exact wanted_t rfl rfl rfl | exact wanted_vt rfl rfl rfl) ?_ ?_
    · intro hc Φ hΦ; (repeat (first | rw [vg_of hc] | rw [vg_of (and_l hc)] | rw [vg_of (and_l (and_l hc))] | rw [vg_of (and_l (and_l (and_l hc)))] | rw [vg_and hc])); refine O_bin rfl rfl rfl eqg_int r_eql ?_; exact hΦ
    (try simp only [PT])
    apply seq_op (V := .bool (((a0.proc == a1.proc) && (a0.state == a1.state)) && (a0.from_ == a1.from_))) rfl
    · exact fun _ h => G_and _ _ _ rfl rfl rfl rfl h
    (try simp only [PT])
    apply seq_op (V := .bool (((a0.proc == a1.proc) && (a0.state == a1.state)) && (a0.from_ == a1.from_))) rfl
    · exact fun _ h => O_mv rfl rfl h
    (try simp only [PT])
    refine seq_opg (c := (((a0.proc == a1.proc) && (a0.state == a1.state)) && (a0.from_ == a1.from_))) (V := .pointer (some ⟨b2, 3, none⟩)) (by first | exact wanted_t rfl rfl rfl | exact wanted_vt rfl rfl rfl) ?_ ?_
    · intro hc Φ hΦ; refine O_fld rfl Tryd.underlying75 rfl (Tryd.sizeOf3 _) rfl ?_; exact hΦ
    (try simp only [PT])
    refine seq_opg (c := (((a0.proc == a1.proc) && (a0.state == a1.state)) && (a0.from_ == a1.from_))) (V := .int .i64 a0.to) (by first | exact wanted_t rfl rfl rfl | exact wanted_vt rfl rfl rfl) ?_ ?_
    · intro hc Φ hΦ; (repeat (first | rw [vg_of hc] | rw [vg_of (and_l hc)] | rw [vg_of (and_l (and_l hc))] | rw [vg_of (and_l (and_l (and_l hc)))] | rw [vg_and hc])); refine L_1 1 _ _ rfl (Tryd.isAgg3 _) rfl H rfl rfl ?_; exact hΦ
    (try simp only [PT])
    refine seq_opg (c := (((a0.proc == a1.proc) && (a0.state == a1.state)) && (a0.from_ == a1.from_))) (V := .pointer (some ⟨b3, 3, none⟩)) (by first | exact wanted_t rfl rfl rfl | exact wanted_vt rfl rfl rfl) ?_ ?_
    · intro hc Φ hΦ; refine O_fld rfl Tryd.underlying75 rfl (Tryd.sizeOf3 _) rfl ?_; exact hΦ
    (try simp only [PT])
    refine seq_opg (c := (((a0.proc == a1.proc) && (a0.state == a1.state)) && (a0.from_ == a1.from_))) (V := .int .i64 a1.to) (by first | exact wanted_t rfl rfl rfl | exact wanted_vt rfl rfl rfl) ?_ ?_
    · intro hc Φ hΦ; (repeat (first | rw [vg_of hc] | rw [vg_of (and_l hc)] | rw [vg_of (and_l (and_l hc))] | rw [vg_of (and_l (and_l (and_l hc)))] | rw [vg_and hc])); refine L_1 0 _ _ rfl (Tryd.isAgg3 _) rfl H rfl rfl ?_; exact hΦ
    (try simp only [PT])
    refine seq_opg (c := (((a0.proc == a1.proc) && (a0.state == a1.state)) && (a0.from_ == a1.from_))) (V := .bool (a0.to == a1.to)) (by first | exact wanted_t rfl rfl rfl | exact wanted_vt rfl rfl rfl) ?_ ?_
    · intro hc Φ hΦ; (repeat (first | rw [vg_of hc] | rw [vg_of (and_l hc)] | rw [vg_of (and_l (and_l hc))] | rw [vg_of (and_l (and_l (and_l hc)))] | rw [vg_and hc])); refine O_bin rfl rfl rfl eqg_int r_eql ?_; exact hΦ
    (try simp only [PT])
    apply seq_op (V := .bool ((((a0.proc == a1.proc) && (a0.state == a1.state)) && (a0.from_ == a1.from_)) && (a0.to == a1.to))) rfl
    · exact fun _ h => G_and _ _ _ rfl rfl rfl rfl h
    (try simp only [PT])
    apply seq_op (V := .bool ((((a0.proc == a1.proc) && (a0.state == a1.state)) && (a0.from_ == a1.from_)) && (a0.to == a1.to))) rfl
    · exact fun _ h => O_mv rfl rfl h
    (try simp only [PT])
    refine seq_opw (V := .pointer (some ⟨b2, 4, none⟩)) ((wanted_t rfl rfl rfl).trans hg1) ?_ ?_
    · exact fun _ h => O_fld rfl Tryd.underlying75 rfl (Tryd.sizeOf71 _) rfl h
    (try simp only [PT])
    refine seq_opw (V := .slice A_p0_ops a0.ops.length c_p0_ops) ((wanted_t rfl rfl rfl).trans hg1) ?_ ?_
    · exact fun _ h => L_1 1 _ _ rfl (Tryd.isAgg71 _) rfl H rfl rfl h
    (try simp only [PT])
    refine seq_opw (V := .pointer (some ⟨b3, 4, none⟩)) ((wanted_t rfl rfl rfl).trans hg1) ?_ ?_
    · exact fun _ h => O_fld rfl Tryd.underlying75 rfl (Tryd.sizeOf71 _) rfl h
    (try simp only [PT])
    refine seq_opw (V := .slice A_p1_ops a1.ops.length c_p1_ops) ((wanted_t rfl rfl rfl).trans hg1) ?_ ?_
    · exact fun _ h => L_1 0 _ _ rfl (Tryd.isAgg71 _) rfl H rfl rfl h
    (try simp only [PT])
    refine seq_callw ((wanted_t rfl rfl rfl).trans hg1) (fun Φ hΦ => by refine O_call2 rfl Tryd.func77 rfl rfl rfl rfl hΦ) (assayerplain_SameOps_w (a0 := a0.ops) (h_p0 := h_p0_ops) (a1 := a1.ops) (h_p1 := h_p1_ops) (hm := gx1) (H := H)) ?_
    clear H
    rintro e w1 ⟨rfl, H⟩; refine ⟨_, rfl, ?_⟩
    (try simp only [PT])
    apply seq_op (V := .bool u1) rfl
    · exact fun _ h => O_pickT rfl rfl hg1 rfl h
    (try simp only [PT])
    apply seq_op (V := .bool u1) rfl
    · exact fun _ h => O_as rfl rfl h
    (try simp only [PT])
    refine list_end ?_
    refine then_norm ?_
    refine wp_ret ?_
    have hm := Option.some.inj hm
    subst hm
    replace H := H.dropAt 1 rfl; simp only [List.eraseIdx_cons_succ, List.eraseIdx_cons_zero] at H
    replace H := H.dropAt 0 rfl; simp only [List.eraseIdx_cons_succ, List.eraseIdx_cons_zero] at H
    exact ret1 rfl (rv_tmp rfl) rfl ⟨rfl, H⟩
  · replace hm := ifF hg1 hm
    refine wp_region_lit ?_
    apply seq_op (V := .pointer (some ⟨b2, 0, none⟩)) rfl
    · exact fun _ h => O_fld rfl Tryd.underlying75 rfl (Tryd.sizeOf3 _) rfl h
    (try simp only [PT])
    apply seq_op (V := .int .i64 a0.proc) rfl
    · exact fun _ h => L_1 1 _ _ rfl (Tryd.isAgg3 _) rfl H rfl rfl h
    (try simp only [PT])
    apply seq_op (V := .pointer (some ⟨b3, 0, none⟩)) rfl
    · exact fun _ h => O_fld rfl Tryd.underlying75 rfl (Tryd.sizeOf3 _) rfl h
    (try simp only [PT])
    apply seq_op (V := .int .i64 a1.proc) rfl
    · exact fun _ h => L_1 0 _ _ rfl (Tryd.isAgg3 _) rfl H rfl rfl h
    (try simp only [PT])
    apply seq_op (V := .bool (a0.proc == a1.proc)) rfl
    · exact fun _ h => O_bin rfl rfl rfl eqg_int r_eql h
    (try simp only [PT])
    apply seq_op (V := .bool (a0.proc == a1.proc)) rfl
    · exact fun _ h => O_mv rfl rfl h
    (try simp only [PT])
    refine seq_opg (c := (a0.proc == a1.proc)) (V := .pointer (some ⟨b2, 1, none⟩)) (by first | exact wanted_t rfl rfl rfl | exact wanted_vt rfl rfl rfl) ?_ ?_
    · intro hc Φ hΦ; refine O_fld rfl Tryd.underlying75 rfl (Tryd.sizeOf3 _) rfl ?_; exact hΦ
    (try simp only [PT])
    refine seq_opg (c := (a0.proc == a1.proc)) (V := .int .i64 a0.state) (by first | exact wanted_t rfl rfl rfl | exact wanted_vt rfl rfl rfl) ?_ ?_
    · intro hc Φ hΦ; (repeat (first | rw [vg_of hc] | rw [vg_of (and_l hc)] | rw [vg_of (and_l (and_l hc))] | rw [vg_of (and_l (and_l (and_l hc)))] | rw [vg_and hc])); refine L_1 1 _ _ rfl (Tryd.isAgg3 _) rfl H rfl rfl ?_; exact hΦ
    (try simp only [PT])
    refine seq_opg (c := (a0.proc == a1.proc)) (V := .pointer (some ⟨b3, 1, none⟩)) (by first | exact wanted_t rfl rfl rfl | exact wanted_vt rfl rfl rfl) ?_ ?_
    · intro hc Φ hΦ; refine O_fld rfl Tryd.underlying75 rfl (Tryd.sizeOf3 _) rfl ?_; exact hΦ
    (try simp only [PT])
    refine seq_opg (c := (a0.proc == a1.proc)) (V := .int .i64 a1.state) (by first | exact wanted_t rfl rfl rfl | exact wanted_vt rfl rfl rfl) ?_ ?_
    · intro hc Φ hΦ; (repeat (first | rw [vg_of hc] | rw [vg_of (and_l hc)] | rw [vg_of (and_l (and_l hc))] | rw [vg_of (and_l (and_l (and_l hc)))] | rw [vg_and hc])); refine L_1 0 _ _ rfl (Tryd.isAgg3 _) rfl H rfl rfl ?_; exact hΦ
    (try simp only [PT])
    refine seq_opg (c := (a0.proc == a1.proc)) (V := .bool (a0.state == a1.state)) (by first | exact wanted_t rfl rfl rfl | exact wanted_vt rfl rfl rfl) ?_ ?_
    · intro hc Φ hΦ; (repeat (first | rw [vg_of hc] | rw [vg_of (and_l hc)] | rw [vg_of (and_l (and_l hc))] | rw [vg_of (and_l (and_l (and_l hc)))] | rw [vg_and hc])); refine O_bin rfl rfl rfl eqg_int r_eql ?_; exact hΦ
    (try simp only [PT])
    apply seq_op (V := .bool ((a0.proc == a1.proc) && (a0.state == a1.state))) rfl
    · exact fun _ h => G_and _ _ _ rfl rfl rfl rfl h
    (try simp only [PT])
    apply seq_op (V := .bool ((a0.proc == a1.proc) && (a0.state == a1.state))) rfl
    · exact fun _ h => O_mv rfl rfl h
    (try simp only [PT])
    refine seq_opg (c := ((a0.proc == a1.proc) && (a0.state == a1.state))) (V := .pointer (some ⟨b2, 2, none⟩)) (by first | exact wanted_t rfl rfl rfl | exact wanted_vt rfl rfl rfl) ?_ ?_
    · intro hc Φ hΦ; refine O_fld rfl Tryd.underlying75 rfl (Tryd.sizeOf3 _) rfl ?_; exact hΦ
    (try simp only [PT])
    refine seq_opg (c := ((a0.proc == a1.proc) && (a0.state == a1.state))) (V := .int .i64 a0.from_) (by first | exact wanted_t rfl rfl rfl | exact wanted_vt rfl rfl rfl) ?_ ?_
    · intro hc Φ hΦ; (repeat (first | rw [vg_of hc] | rw [vg_of (and_l hc)] | rw [vg_of (and_l (and_l hc))] | rw [vg_of (and_l (and_l (and_l hc)))] | rw [vg_and hc])); refine L_1 1 _ _ rfl (Tryd.isAgg3 _) rfl H rfl rfl ?_; exact hΦ
    (try simp only [PT])
    refine seq_opg (c := ((a0.proc == a1.proc) && (a0.state == a1.state))) (V := .pointer (some ⟨b3, 2, none⟩)) (by first | exact wanted_t rfl rfl rfl | exact wanted_vt rfl rfl rfl) ?_ ?_
    · intro hc Φ hΦ; refine O_fld rfl Tryd.underlying75 rfl (Tryd.sizeOf3 _) rfl ?_; exact hΦ
    (try simp only [PT])
    refine seq_opg (c := ((a0.proc == a1.proc) && (a0.state == a1.state))) (V := .int .i64 a1.from_) (by first | exact wanted_t rfl rfl rfl | exact wanted_vt rfl rfl rfl) ?_ ?_
    · intro hc Φ hΦ; (repeat (first | rw [vg_of hc] | rw [vg_of (and_l hc)] | rw [vg_of (and_l (and_l hc))] | rw [vg_of (and_l (and_l (and_l hc)))] | rw [vg_and hc])); refine L_1 0 _ _ rfl (Tryd.isAgg3 _) rfl H rfl rfl ?_; exact hΦ
    (try simp only [PT])
    refine seq_opg (c := ((a0.proc == a1.proc) && (a0.state == a1.state))) (V := .bool (a0.from_ == a1.from_)) (by first | exact wanted_t rfl rfl rfl | exact wanted_vt rfl rfl rfl) ?_ ?_
    · intro hc Φ hΦ; (repeat (first | rw [vg_of hc] | rw [vg_of (and_l hc)] | rw [vg_of (and_l (and_l hc))] | rw [vg_of (and_l (and_l (and_l hc)))] | rw [vg_and hc])); refine O_bin rfl rfl rfl eqg_int r_eql ?_; exact hΦ
    (try simp only [PT])
    apply seq_op (V := .bool (((a0.proc == a1.proc) && (a0.state == a1.state)) && (a0.from_ == a1.from_))) rfl
    · exact fun _ h => G_and _ _ _ rfl rfl rfl rfl h
    (try simp only [PT])
    apply seq_op (V := .bool (((a0.proc == a1.proc) && (a0.state == a1.state)) && (a0.from_ == a1.from_))) rfl
    · exact fun _ h => O_mv rfl rfl h
    (try simp only [PT])
    refine seq_opg (c := (((a0.proc == a1.proc) && (a0.state == a1.state)) && (a0.from_ == a1.from_))) (V := .pointer (some ⟨b2, 3, none⟩)) (by first | exact wanted_t rfl rfl rfl | exact wanted_vt rfl rfl rfl) ?_ ?_
    · intro hc Φ hΦ; refine O_fld rfl Tryd.underlying75 rfl (Tryd.sizeOf3 _) rfl ?_; exact hΦ
    (try simp only [PT])
    refine seq_opg (c := (((a0.proc == a1.proc) && (a0.state == a1.state)) && (a0.from_ == a1.from_))) (V := .int .i64 a0.to) (by first | exact wanted_t rfl rfl rfl | exact wanted_vt rfl rfl rfl) ?_ ?_
    · intro hc Φ hΦ; (repeat (first | rw [vg_of hc] | rw [vg_of (and_l hc)] | rw [vg_of (and_l (and_l hc))] | rw [vg_of (and_l (and_l (and_l hc)))] | rw [vg_and hc])); refine L_1 1 _ _ rfl (Tryd.isAgg3 _) rfl H rfl rfl ?_; exact hΦ
    (try simp only [PT])
    refine seq_opg (c := (((a0.proc == a1.proc) && (a0.state == a1.state)) && (a0.from_ == a1.from_))) (V := .pointer (some ⟨b3, 3, none⟩)) (by first | exact wanted_t rfl rfl rfl | exact wanted_vt rfl rfl rfl) ?_ ?_
    · intro hc Φ hΦ; refine O_fld rfl Tryd.underlying75 rfl (Tryd.sizeOf3 _) rfl ?_; exact hΦ
    (try simp only [PT])
    refine seq_opg (c := (((a0.proc == a1.proc) && (a0.state == a1.state)) && (a0.from_ == a1.from_))) (V := .int .i64 a1.to) (by first | exact wanted_t rfl rfl rfl | exact wanted_vt rfl rfl rfl) ?_ ?_
    · intro hc Φ hΦ; (repeat (first | rw [vg_of hc] | rw [vg_of (and_l hc)] | rw [vg_of (and_l (and_l hc))] | rw [vg_of (and_l (and_l (and_l hc)))] | rw [vg_and hc])); refine L_1 0 _ _ rfl (Tryd.isAgg3 _) rfl H rfl rfl ?_; exact hΦ
    (try simp only [PT])
    refine seq_opg (c := (((a0.proc == a1.proc) && (a0.state == a1.state)) && (a0.from_ == a1.from_))) (V := .bool (a0.to == a1.to)) (by first | exact wanted_t rfl rfl rfl | exact wanted_vt rfl rfl rfl) ?_ ?_
    · intro hc Φ hΦ; (repeat (first | rw [vg_of hc] | rw [vg_of (and_l hc)] | rw [vg_of (and_l (and_l hc))] | rw [vg_of (and_l (and_l (and_l hc)))] | rw [vg_and hc])); refine O_bin rfl rfl rfl eqg_int r_eql ?_; exact hΦ
    (try simp only [PT])
    apply seq_op (V := .bool ((((a0.proc == a1.proc) && (a0.state == a1.state)) && (a0.from_ == a1.from_)) && (a0.to == a1.to))) rfl
    · exact fun _ h => G_and _ _ _ rfl rfl rfl rfl h
    (try simp only [PT])
    apply seq_op (V := .bool ((((a0.proc == a1.proc) && (a0.state == a1.state)) && (a0.from_ == a1.from_)) && (a0.to == a1.to))) rfl
    · exact fun _ h => O_mv rfl rfl h
    (try simp only [PT])
    refine seq_skip ((wanted_t rfl rfl rfl).trans hg1) ?_
    (try simp only [PT])
    refine seq_skip ((wanted_t rfl rfl rfl).trans hg1) ?_
    (try simp only [PT])
    refine seq_skip ((wanted_t rfl rfl rfl).trans hg1) ?_
    (try simp only [PT])
    refine seq_skip ((wanted_t rfl rfl rfl).trans hg1) ?_
    (try simp only [PT])
    refine seq_skip ((wanted_t rfl rfl rfl).trans hg1) ?_
    (try simp only [PT])
    apply seq_op (V := .bool false) rfl
    · exact fun _ h => O_pickF rfl rfl hg1 rfl h
    (try simp only [PT])
    apply seq_op (V := .bool false) rfl
    · exact fun _ h => O_as rfl rfl h
    (try simp only [PT])
    refine list_end ?_
    refine then_norm ?_
    refine wp_ret ?_
    have hm := Option.some.inj hm
    subst hm
    replace H := H.dropAt 1 rfl; simp only [List.eraseIdx_cons_succ, List.eraseIdx_cons_zero] at H
    replace H := H.dropAt 0 rfl; simp only [List.eraseIdx_cons_succ, List.eraseIdx_cons_zero] at H
    exact ret1 rfl (rv_tmp rfl) rfl ⟨rfl, H⟩
def slices_EqualFunc_Txn_assayerplain_SameTxn_l4 (a1 : List Txn) : Nat → List Txn → Option ((Bool ⊕ Unit))
  | k4, []  => some (.inr ())
  | k4, x4 :: r4 => (rdI a1 (k4 : Int)).bind fun u1 => (assayerplain_SameTxn_f x4 u1).bind fun u2 => if (!u2) = true then (some (.inl false)) else (slices_EqualFunc_Txn_assayerplain_SameTxn_l4 a1 (k4 + 1) r4)

def slices_EqualFunc_Txn_assayerplain_SameTxn_f (a0 : List Txn) (a1 : List Txn) : Option Bool := if ((a0.length : Int) != (a1.length : Int)) = true then (some false) else ((slices_EqualFunc_Txn_assayerplain_SameTxn_l4 a1 0 a0).bind fun | .inl z4_r => (some z4_r) | .inr () => (some true))

set_option maxHeartbeats 4000000 in
theorem slices_EqualFunc_Txn_assayerplain_SameTxn_w {E : World} {s : SH} {L : List HP} {w : World} {a0 : List Txn} {a1 : List Txn} {A_p0 : Option Addr} {c_p0 : Nat} (h_p0 : kT.Sl s (.slice A_p0 a0.length c_p0) a0) {A_p1 : Option Addr} {c_p1 : Nat} (h_p1 : kT.Sl s (.slice A_p1 a1.length c_p1) a1) {R : Bool} (hm : slices_EqualFunc_Txn_assayerplain_SameTxn_f a0 a1 = some R) (H : Holds E s (L) w) :
    Calls Tryd.prog 73 #[.slice A_p0 a0.length c_p0, .slice A_p1 a1.length c_p1, .func (.func 74) #[] #[]] w fun e w' => e = .returned (.bool R) ∧ Holds E s (L) w' := by
  unfold slices_EqualFunc_Txn_assayerplain_SameTxn_f at hm
  go_enter Tryd.func73, Tryd.ntmps73
  refine wp_seq ?_
  refine wp_region_lit ?_
  apply seq_op (V := .bool false) rfl
  · exact fun _ h => O_as rfl rfl h
  (try simp only [PT])
  refine list_end ?_
  refine then_norm ?_
  refine wp_seq ?_
  refine wp_seq ?_
  refine wp_region_lit ?_
  apply seq_op (V := .slice A_p0 a0.length c_p0) rfl
  · exact fun _ h => O_mv rfl rfl h
  (try simp only [PT])
  apply seq_op (V := .int .i64 (a0.length : Int)) rfl
  · exact fun _ h => O_len rfl Tryd.underlying57 rfl h
  (try simp only [PT])
  apply seq_op (V := .slice A_p1 a1.length c_p1) rfl
  · exact fun _ h => O_mv rfl rfl h
  (try simp only [PT])
  apply seq_op (V := .int .i64 (a1.length : Int)) rfl
  · exact fun _ h => O_len rfl Tryd.underlying57 rfl h
  (try simp only [PT])
  apply seq_op (V := .bool ((a0.length : Int) != (a1.length : Int))) rfl
  · exact fun _ h => O_bin rfl rfl rfl eqg_int r_neq h
  (try simp only [PT])
  refine list_end ?_
  refine then_norm ?_
  refine wp_cond_split rfl (fun hc => ?_) (fun hc => ?_)
  · have hc1 := hc
    clear hc
    replace hm := ifT hc1 hm
    refine wp_seq ?_
    refine wp_region_lit ?_
    apply seq_op (V := .bool false) rfl
    · exact fun _ h => O_as rfl rfl h
    (try simp only [PT])
    refine list_end ?_
    refine then_norm ?_
    refine wp_ret ?_
    refine then_ret ?_
    have hm := Option.some.inj hm
    subst hm
    exact ret1 rfl (rv_tmp rfl) rfl ⟨rfl, H⟩
  · have hc1 := hc
    clear hc
    replace hm := ifF hc1 hm
    refine wp_skip ?_
    refine then_norm ?_
    refine wp_seq ?_
    refine wp_seq ?_
    refine wp_region_lit ?_
    apply seq_op (V := .slice A_p0 a0.length c_p0) rfl
    · exact fun _ h => O_mv rfl rfl h
    (try simp only [PT])
    apply seq_op (V := .int .i64 (a0.length : Int)) rfl
    · exact fun _ h => O_len rfl Tryd.underlying57 rfl h
    (try simp only [PT])
    apply seq_op (V := .int .i64 0) rfl
    · exact fun _ h => O_mv rfl rfl h
    (try simp only [PT])
    refine list_end ?_
    refine then_norm ?_
    refine wp_block ?_
    obtain ⟨R4, hq4, hm⟩ := bs hm
    have hn4 := Nat.le_trans (len_le (d := kT) h_p0 (by decide)) (by decide : (140737488355328 : Nat) ≤ 9223372036854775807)
    refine wp_loopF [none, none, none, none, none, none, some 6, some 7, some 8, some 9, none, none, none, none, none, none, none, some 17, some 18, some 19, some 20, some 21, some 22, some 23, some 24, some 25, some 26, some 27, some 28, some 29, some 30, some 31] rfl (by simp) (fun f w => ∃ (k4 : Nat) (r4 : List Txn), a0.drop k4 = r4 ∧ f 17 = .int .i64 (k4 : Int) ∧ slices_EqualFunc_Txn_assayerplain_SameTxn_l4 a1 k4 r4 = some R4 ∧ Holds E s (L) w) (fun f w => a0.length - (intOf (f 17)).toNat) ?_ ?_
    · exact ⟨0, a0, rfl, rfl, hq4, H⟩
    · clear H
      intro f w hI
      obtain ⟨k4, r4, hd4, hf17, hq4', H⟩ := hI
      clear hq4; have hq4 := hq4'; clear hq4'
      simp only [ovm, mixM]
      simp only [hf17]; clear hf17
      refine wp_seq ?_
      refine wp_region_lit ?_
      apply seq_op (V := .bool (decide ((k4 : Int) < (a0.length : Int)))) rfl
      · exact fun _ h => O_bin rfl rfl rfl eqg_int r_lss h
      (try simp only [PT])
      refine list_end ?_
      refine then_norm ?_
      refine wp_seq ?_
      refine wp_cond_split rfl (fun hc => ?_) (fun hc => ?_)
      · have hc2 := hc
        clear hc
        obtain ⟨x4, r4', rfl, hd4', hd4'', hl4⟩ := rng_t hd4 hc2
        rw [slices_EqualFunc_Txn_assayerplain_SameTxn_l4] at hq4
        refine wp_skip ?_
        refine then_norm ?_
        refine wp_seq ?_
        refine wp_block ?_
        refine wp_seq ?_
        obtain ⟨be1, oe1, A4e1, c4e1, rfl, hCe1, h0e1, h1e1, h2e1, h3e1, h4e1⟩ := kT_el h_p0 hd4'
        refine wp_region_lit ?_
        apply seq_op (V := .int .i64 (k4 : Int)) rfl
        · exact fun _ h => O_mv rfl rfl h
        (try simp only [PT])
        apply seq_op (V := .pointer (some ⟨be1, oe1 + k4 * 5, none⟩)) rfl
        · exact fun _ h => O_ix rfl Tryd.underlying57 (Tryd.sizeOf75 _) rfl rfl rfl hl4 h
        (try simp only [PT])
        apply seq_op (V := .agg #[.int .i64 x4.proc, .int .i64 x4.state, .int .i64 x4.from_, .int .i64 x4.to, .slice A4e1 x4.ops.length c4e1]) rfl
        · exact fun _ h => G_sN _ _ rfl (Tryd.isAgg75 _) rfl H hCe1 (Tryd.sizeOf75 _) h
        (try simp only [PT])
        refine OpG.list rfl ?_; refine G_alloc 75 rfl (Tryd.zeroValue75 _) H ?_; clear H; intro b8 w1 H; (try simp only [Value.cells] at H)
        (try simp only [PT])
        apply seq_op (V := .int .i64 (k4 : Int)) rfl
        · exact fun _ h => O_as rfl rfl h
        (try simp only [PT])
        refine OpG.list rfl ?_; refine G_setNi 0 (c := [.int .i64 x4.proc, .int .i64 x4.state, .int .i64 x4.from_, .int .i64 x4.to, .slice A4e1 x4.ops.length c4e1]) _ _ _ rfl (Tryd.sizeOf75 _) rfl rfl (by simp [Value.oneCell']) H rfl rfl ?_; clear H; intro w1 H; simp only [List.set_cons_succ, List.set_cons_zero] at H
        (try simp only [PT])
        refine list_end ?_
        refine then_norm ?_
        refine wp_seq ?_
        obtain ⟨u1, gx1, hq4⟩ := bs hq4
        obtain ⟨kk1, gk1, gl1, gd1⟩ := rdI_some gx1
        obtain ⟨be2, oe2, A4e2, c4e2, rfl, hCe2, h0e2, h1e2, h2e2, h3e2, h4e2⟩ := kT_el h_p1 gd1
        refine wp_region_lit ?_
        apply seq_op (V := .slice (some ⟨be2, oe2, none⟩) a1.length c_p1) rfl
        · exact fun _ h => O_mv rfl rfl h
        (try simp only [PT])
        apply seq_op (V := .int .i64 (k4 : Int)) rfl
        · exact fun _ h => O_mv rfl rfl h
        (try simp only [PT])
        apply seq_op (V := .pointer (some ⟨be2, oe2 + kk1 * 5, none⟩)) rfl
        · exact fun _ h => O_ix rfl Tryd.underlying57 (Tryd.sizeOf75 _) rfl rfl gk1 gl1 h
        (try simp only [PT])
        apply seq_op (V := .agg #[.int .i64 u1.proc, .int .i64 u1.state, .int .i64 u1.from_, .int .i64 u1.to, .slice A4e2 u1.ops.length c4e2]) rfl
        · exact fun _ h => G_sN _ _ rfl (Tryd.isAgg75 _) rfl H hCe2 (Tryd.sizeOf75 _) h
        (try simp only [PT])
        refine OpG.list rfl ?_; refine G_alloc 75 rfl (Tryd.zeroValue75 _) H ?_; clear H; intro b9 w1 H; (try simp only [Value.cells] at H)
        (try simp only [PT])
        refine OpG.list rfl ?_; refine G_setNi 0 (c := [.int .i64 u1.proc, .int .i64 u1.state, .int .i64 u1.from_, .int .i64 u1.to, .slice A4e2 u1.ops.length c4e2]) _ _ _ rfl (Tryd.sizeOf75 _) rfl rfl (by simp [Value.oneCell']) H rfl rfl ?_; clear H; intro w1 H; simp only [List.set_cons_succ, List.set_cons_zero] at H
        (try simp only [PT])
        refine list_end ?_
        refine then_norm ?_
        refine wp_seq ?_
        obtain ⟨u2, gx2, hq4⟩ := bs hq4
        refine wp_region_lit ?_
        apply seq_op (V := .func (.func 74) #[] #[]) rfl
        · exact fun _ h => O_mv rfl rfl h
        (try simp only [PT])
        apply seq_op (V := .agg #[.int .i64 x4.proc, .int .i64 x4.state, .int .i64 x4.from_, .int .i64 x4.to, .slice A4e1 x4.ops.length c4e1]) rfl
        · exact fun _ h => G_pNi 1 _ _ rfl (Tryd.isAgg75 _) rfl H rfl (Tryd.sizeOf75 _) h
        (try simp only [PT])
        apply seq_op (V := .agg #[.int .i64 u1.proc, .int .i64 u1.state, .int .i64 u1.from_, .int .i64 u1.to, .slice A4e2 u1.ops.length c4e2]) rfl
        · exact fun _ h => G_pNi 0 _ _ rfl (Tryd.isAgg75 _) rfl H rfl (Tryd.sizeOf75 _) h
        (try simp only [PT])
        refine seq_call rfl (fun Φ hΦ => by refine O_callv2 (args := #[.agg #[.int .i64 x4.proc, .int .i64 x4.state, .int .i64 x4.from_, .int .i64 x4.to, .slice A4e1 x4.ops.length c4e1], .agg #[.int .i64 u1.proc, .int .i64 u1.state, .int .i64 u1.from_, .int .i64 u1.to, .slice A4e2 u1.ops.length c4e2]]) (v1 := .agg #[.int .i64 x4.proc, .int .i64 x4.state, .int .i64 x4.from_, .int .i64 x4.to, .slice A4e1 x4.ops.length c4e1]) (v2 := .agg #[.int .i64 u1.proc, .int .i64 u1.state, .int .i64 u1.from_, .int .i64 u1.to, .slice A4e2 u1.ops.length c4e2]) rfl Tryd.func74 rfl rfl rfl rfl rfl (by simp only [Array.append_empty]) hΦ) (assayerplain_SameTxn_w (a0 := x4) (h_p0_ops := h4e1) (a1 := u1) (h_p1_ops := h4e2) (hm := gx2) (H := H)) ?_
        clear H
        rintro e w1 ⟨rfl, H⟩; refine ⟨_, rfl, ?_⟩
        (try simp only [PT])
        apply seq_op (V := .bool (!u2)) rfl
        · exact fun _ h => O_not rfl rfl h
        (try simp only [PT])
        refine list_end ?_
        refine then_norm ?_
        refine wp_cond_split rfl (fun hc => ?_) (fun hc => ?_)
        · have hc3 := hc
          clear hc
          replace hq4 := ifT hc3 hq4
          refine wp_seq ?_
          refine wp_region_lit ?_
          apply seq_op (V := .bool false) rfl
          · exact fun _ h => O_as rfl rfl h
          (try simp only [PT])
          refine list_end ?_
          refine then_norm ?_
          refine wp_ret ?_
          refine block_ret ?_
          refine then_ret ?_
          refine then_ret ?_
          refine block_ret ?_
          refine then_ret ?_
          have hq4 := Option.some.inj hq4
          subst hq4
          (try dsimp only at hm)
          have hm := Option.some.inj hm
          subst hm
          replace H := H.dropAt 1 rfl; simp only [List.eraseIdx_cons_succ, List.eraseIdx_cons_zero] at H
          replace H := H.dropAt 0 rfl; simp only [List.eraseIdx_cons_succ, List.eraseIdx_cons_zero] at H
          exact ret1 rfl (rv_tmp rfl) rfl ⟨rfl, H⟩
        · have hc3 := hc
          clear hc
          replace hq4 := ifF hc3 hq4
          refine wp_skip ?_
          refine block_norm ?_
          refine then_norm ?_
          refine wp_region_lit ?_
          apply seq_op (V := .int .i64 (IntKind.i64.wrap ((k4 : Int) + 1))) rfl
          · exact fun _ h => O_bin rfl rfl rfl eqg_int r_add h
          (try simp only [PT])
          apply seq_op (V := .int .i64 (IntKind.i64.wrap ((k4 : Int) + 1))) rfl
          · exact fun _ h => O_mv rfl rfl h
          (try simp only [PT])
          refine list_end ?_
          refine then_norm ?_
          replace H := H.drop
          replace H := H.drop
          refine ⟨⟨⟨rfl, rfl, rfl, rfl, rfl, rfl, rfl, rfl, rfl, rfl, rfl, rfl, rfl, rfl⟩, rfl⟩, ⟨k4 + 1, _, hd4'', wrap_succ hl4 hn4, hq4, H⟩, ?_⟩
          exact meas_succ hl4 hn4
      · have hc2 := hc
        clear hc
        obtain rfl := rng_f hd4 hc2
        rw [slices_EqualFunc_Txn_assayerplain_SameTxn_l4] at hq4
        refine wp_exit ?_
        refine then_exit ?_
        refine then_exit ?_
        have hq4 := Option.some.inj hq4
        subst hq4
        (try dsimp only at hm)
        refine block_exit ?_
        refine then_norm ?_
        refine wp_seq ?_
        refine wp_region_lit ?_
        apply seq_op (V := .bool true) rfl
        · exact fun _ h => O_as rfl rfl h
        (try simp only [PT])
        refine list_end ?_
        refine then_norm ?_
        refine wp_ret ?_
        have hm := Option.some.inj hm
        subst hm
        exact ret1 rfl (rv_tmp rfl) rfl ⟨rfl, H⟩
def assayerplain_SameTxns_f (a0 : List Txn) (a1 : List Txn) : Option Bool := (slices_EqualFunc_Txn_assayerplain_SameTxn_f a0 a1).bind fun u1 => some u1

set_option maxHeartbeats 4000000 in
theorem assayerplain_SameTxns_w {E : World} {s : SH} {L : List HP} {w : World} {a0 : List Txn} {a1 : List Txn} {A_p0 : Option Addr} {c_p0 : Nat} (h_p0 : kT.Sl s (.slice A_p0 a0.length c_p0) a0) {A_p1 : Option Addr} {c_p1 : Nat} (h_p1 : kT.Sl s (.slice A_p1 a1.length c_p1) a1) {R : Bool} (hm : assayerplain_SameTxns_f a0 a1 = some R) (H : Holds E s (L) w) :
    Calls Tryd.prog 34 #[.slice A_p0 a0.length c_p0, .slice A_p1 a1.length c_p1] w fun e w' => e = .returned (.bool R) ∧ Holds E s (L) w' := by
  unfold assayerplain_SameTxns_f at hm
  go_enter Tryd.func34, Tryd.ntmps34
  refine wp_seq ?_
  refine wp_region_lit ?_
  apply seq_op (V := .bool false) rfl
  · exact fun _ h => O_as rfl rfl h
  (try simp only [PT])
  refine list_end ?_
  refine then_norm ?_
  refine wp_seq ?_
  obtain ⟨u1, gx1, hm⟩ := bs hm
  refine wp_region_lit ?_
  apply seq_op (V := .slice A_p0 a0.length c_p0) rfl
  · exact fun _ h => O_mv rfl rfl h
  (try simp only [PT])
  apply seq_op (V := .slice A_p1 a1.length c_p1) rfl
  · exact fun _ h => O_mv rfl rfl h
  (try simp only [PT])
  refine seq_call rfl (fun Φ hΦ => by refine O_call3 rfl Tryd.func73 rfl rfl rfl rfl rfl hΦ) (slices_EqualFunc_Txn_assayerplain_SameTxn_w (a0 := a0) (h_p0 := h_p0) (a1 := a1) (h_p1 := h_p1) (hm := gx1) (H := H)) ?_
  clear H
  rintro e w1 ⟨rfl, H⟩; refine ⟨_, rfl, ?_⟩
  (try simp only [PT])
  apply seq_op (V := .bool u1) rfl
  · exact fun _ h => O_as rfl rfl h
  (try simp only [PT])
  refine list_end ?_
  refine then_norm ?_
  refine wp_ret ?_
  have hm := Option.some.inj hm
  subst hm
  exact ret1 rfl (rv_tmp rfl) rfl ⟨rfl, H⟩
end Go.Proofs.YtemdmpgekegfhaaDoor
