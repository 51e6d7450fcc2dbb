/- Walks, printed by fx.py: part 2. -/
import Derived.Test.YtemdmpgekegfhaaTab1
namespace Go.Proofs.Ytemdmpgekegfhaa
open Go.RowKit
set_option linter.all false
set_option maxRecDepth 10000
def table_Table_Count_f (a0 : Tbl) : Int := (a0.l.length : Int)

set_option maxHeartbeats 4000000 in
theorem table_Table_Count_w {E : World} {s : SH} {L : List HP} {w : World} {a0 : Tbl} {A_p0_l : Option Addr} {c_p0_l : Nat} (h_p0_l : kT.Sl s (.slice A_p0_l a0.l.length c_p0_l) a0.l) {r_p0_kinds : Nat} (h_p0_kinds : MapKF kcS vcI s r_p0_kinds a0.kinds) {r_p0_writers : Nat} (h_p0_writers : MapKO kcP kWr s r_p0_writers a0.writers) {b_p0 o_p0 : Nat} (hC_p0 : Cells s ⟨b_p0, o_p0, none⟩ [.slice A_p0_l a0.l.length c_p0_l, .map (some r_p0_kinds), .map (some r_p0_writers), .bool a0.made]) (H : Holds E s (L) w) :
    Calls Try.prog 22 #[.pointer (some ⟨b_p0, o_p0, none⟩)] w fun e w' => e = .returned (.int .i64 (table_Table_Count_f a0)) ∧ Holds E s (L) w' := by
  obtain ⟨R, hm⟩ : ∃ R, table_Table_Count_f a0 = R := ⟨_, rfl⟩
  (try rw [hm])
  unfold table_Table_Count_f at hm
  go_enter Try.func22, Try.ntmps22
  refine wp_seq ?_
  refine wp_region_lit ?_
  apply seq_op (V := .int .i64 0) rfl
  · intro Φ hΦ; refine O_as rfl rfl ?_; exact hΦ
  (try simp only [Act.put, List.setIfInBounds_toArray, List.set_cons_succ, List.set_cons_zero])
  refine list_end ?_
  refine then_norm ?_
  refine wp_seq ?_
  refine wp_seq ?_
  refine wp_region_lit ?_
  apply seq_op (V := .pointer (some ⟨b_p0, o_p0, none⟩)) rfl
  · intro Φ hΦ; refine O_mv rfl rfl ?_; exact hΦ
  (try simp only [Act.put, List.setIfInBounds_toArray, List.set_cons_succ, List.set_cons_zero])
  apply seq_op (V := .bool false) rfl
  · intro Φ hΦ; refine O_bin rfl rfl rfl eqg_ptr (r_pnil Try.underlying24) ?_; exact hΦ
  (try simp only [Act.put, List.setIfInBounds_toArray, List.set_cons_succ, List.set_cons_zero])
  refine list_end ?_
  refine then_norm ?_
  refine wp_cond_false rfl ?_
  refine wp_skip ?_
  refine then_norm ?_
  refine wp_seq ?_
  refine wp_region_lit ?_
  apply seq_op (V := .pointer (some ⟨b_p0, o_p0, none⟩)) rfl
  · intro Φ hΦ; refine O_mv rfl rfl ?_; exact hΦ
  (try simp only [Act.put, List.setIfInBounds_toArray, List.set_cons_succ, List.set_cons_zero])
  apply seq_op (V := .pointer (some ⟨b_p0, o_p0, none⟩)) rfl
  · intro Φ hΦ; refine O_nil rfl rfl ?_; exact hΦ
  (try simp only [Act.put, List.setIfInBounds_toArray, List.set_cons_succ, List.set_cons_zero])
  apply seq_op (V := .pointer (some ⟨b_p0, o_p0, none⟩)) rfl
  · intro Φ hΦ; refine O_fld rfl Try.underlying98 rfl (Try.sizeOf22 _) rfl ?_; exact hΦ
  (try simp only [Act.put, List.setIfInBounds_toArray, List.set_cons_succ, List.set_cons_zero])
  apply seq_op (V := .slice A_p0_l a0.l.length c_p0_l) rfl
  · intro Φ hΦ; refine G_s1 _ _ rfl (Try.isAgg22 _) rfl H hC_p0 0 rfl rfl ?_; exact hΦ
  (try simp only [Act.put, List.setIfInBounds_toArray, List.set_cons_succ, List.set_cons_zero])
  apply seq_op (V := .int .i64 (a0.l.length : Int)) rfl
  · intro Φ hΦ; refine O_len rfl Try.underlying22 rfl ?_; exact hΦ
  (try simp only [Act.put, List.setIfInBounds_toArray, List.set_cons_succ, List.set_cons_zero])
  apply seq_op (V := .int .i64 (a0.l.length : Int)) rfl
  · intro Φ hΦ; refine O_as rfl rfl ?_; exact hΦ
  (try simp only [Act.put, List.setIfInBounds_toArray, List.set_cons_succ, List.set_cons_zero])
  refine list_end ?_
  refine then_norm ?_
  refine wp_ret ?_
  subst hm
  exact ret1 rfl (rv_tmp rfl) rfl ⟨rfl, H⟩
noncomputable def assayerlaw04_TableUnique_f (a0 : List Txn) (a1 : Int) : Option Bool := (table_New_f (small a0)).bind fun u1 => (assayerref04_Unique_f (small a0)).bind fun u2 => if (!((table_Table_Unique_f u1) == u2)) = true then (some false) else (if (((small a0).length : Int) == 0) = true then (some (table_Table_Unique_f u1)) else ((remI .u64 (IntKind.u64.wrap a1) (IntKind.u64.wrap ((small a0).length : Int))).bind fun u3 => (rdI (small a0) (IntKind.i64.wrap u3)).bind fun u4 => (app 56 (small a0) u4).bind fun u54401 => (table_New_f u54401).bind fun u54501 => some (((table_Table_Unique_f u54501) == ((!(slices_ContainsFunc_Op_assayerlaw04_TableUnique_1_f u4.ops)) && (table_Table_Unique_f u1))) && ((table_Table_Count_f u54501) == (IntKind.i64.wrap (((small a0).length : Int) + 1))))))

set_option maxHeartbeats 4000000 in
theorem assayerlaw04_TableUnique_w {E : World} {s : SH} {L : List HP} {w : World} {a0 : List Txn} {a1 : Int} {A_p0 : Option Addr} {c_p0 : Nat} (h_p0 : kT.Sl s (.slice A_p0 a0.length c_p0) a0) {R : Bool} (hm : assayerlaw04_TableUnique_f a0 a1 = some R) (H : Holds E s (L) w) :
    Calls Try.prog 3 #[.slice A_p0 a0.length c_p0, .int .i64 a1] w fun e w' => e = .returned (.bool R) ∧ Holds E s (L) w' := by
  unfold assayerlaw04_TableUnique_f at hm
  go_enter Try.func3, Try.ntmps3
  refine wp_seq ?_
  refine wp_region_lit ?_
  apply seq_op (V := .bool false) rfl
  · intro Φ hΦ; refine O_as rfl rfl ?_; exact hΦ
  (try simp only [Act.put, List.setIfInBounds_toArray, List.set_cons_succ, List.set_cons_zero])
  refine list_end ?_
  refine then_norm ?_
  refine wp_seq ?_
  refine wp_region_lit ?_
  apply seq_op (V := .slice A_p0 a0.length c_p0) rfl
  · intro Φ hΦ; refine O_mv rfl rfl ?_; exact hΦ
  (try simp only [Act.put, List.setIfInBounds_toArray, List.set_cons_succ, List.set_cons_zero])
  refine seq_call rfl (fun Φ hΦ => by refine O_call1 rfl Try.func15 rfl rfl rfl hΦ) (Small_w' (a0 := a0) (h_p0 := h_p0) (H := H)) ?_
  clear H
  rintro e w1 ⟨Ar10, cr10, nr10, s1, rfl, hs', hr10, H⟩; refine ⟨_, rfl, ?_⟩
  obtain rfl := sl_n hr10
  replace h_p0 := h_p0.mono hs'
  have hS := hs'
  (try simp only [Act.put, List.setIfInBounds_toArray, List.set_cons_succ, List.set_cons_zero])
  apply seq_op (V := .slice Ar10 (small a0).length cr10) rfl
  · intro Φ hΦ; refine O_as rfl rfl ?_; exact hΦ
  (try simp only [Act.put, List.setIfInBounds_toArray, List.set_cons_succ, List.set_cons_zero])
  refine list_end ?_
  refine then_norm ?_
  refine wp_seq ?_
  obtain ⟨u1, gx1, hm⟩ := bs hm
  refine wp_region_lit ?_
  apply seq_op (V := .slice Ar10 (small a0).length cr10) rfl
  · intro Φ hΦ; refine O_mv rfl rfl ?_; exact hΦ
  (try simp only [Act.put, List.setIfInBounds_toArray, List.set_cons_succ, List.set_cons_zero])
  refine seq_call rfl (fun Φ hΦ => by refine O_call1 rfl Try.func16 rfl rfl rfl hΦ) (table_New_w (a0 := (small a0)) (h_p0 := hr10) (hm := gx1) (H := H)) ?_
  clear H
  rintro e w1 ⟨br20, Ar20_l, cr20_l, nr20_l, rr20_kinds, rr20_writers, s2, rfl, hs', H⟩; refine ⟨_, rfl, ?_⟩
  obtain rfl := osl_len 1 H rfl
  replace h_p0 := h_p0.mono hs'
  replace hr10 := hr10.mono hs'
  replace hS := hS.trans hs'
  (try simp only [Act.put, List.setIfInBounds_toArray, List.set_cons_succ, List.set_cons_zero])
  apply seq_op (V := .pointer (some ⟨br20, 0, none⟩)) rfl
  · intro Φ hΦ; refine O_as rfl rfl ?_; exact hΦ
  (try simp only [Act.put, List.setIfInBounds_toArray, List.set_cons_succ, List.set_cons_zero])
  refine list_end ?_
  refine then_norm ?_
  refine wp_seq ?_
  refine wp_seq ?_
  obtain ⟨u2, gx2, hm⟩ := bs hm
  refine wp_region_lit ?_
  apply seq_op (V := .pointer (some ⟨br20, 0, none⟩)) rfl
  · intro Φ hΦ; refine O_mv rfl rfl ?_; exact hΦ
  (try simp only [Act.put, List.setIfInBounds_toArray, List.set_cons_succ, List.set_cons_zero])
  refine seq_opH (V := .bool (table_Table_Unique_f u1)) H rfl ?_ ?_
  · intro Φ hΦ; refine O_call1 rfl Try.func17 rfl rfl rfl ?_; obtain ⟨sl0, hsl0, hb0, H, bk0, bg0⟩ := lendAt 0 rfl H; simp only [List.eraseIdx_cons_succ, List.eraseIdx_cons_zero, List.cons_append] at H bk0; obtain ⟨sl1, hsl1, hb1, H, bk1, bg1⟩ := lendOsl 0 rfl hsl0 H; simp only [List.eraseIdx_cons_succ, List.eraseIdx_cons_zero, List.cons_append] at H bk1; obtain ⟨sl2, hsl2, hb2, H, bk2, bg2⟩ := lendMapF 0 rfl H; simp only [List.eraseIdx_cons_succ, List.eraseIdx_cons_zero, List.cons_append] at H bk2; obtain ⟨sl3, hsl3, hb3, H, bk3, bg3⟩ := lendMapO 0 rfl ((hsl0.trans hsl1).trans hsl2) H; simp only [List.eraseIdx_cons_succ, List.eraseIdx_cons_zero, List.cons_append] at H bk3; refine (table_Table_Unique_w (a0 := u1) (hC_p0 := ((Cells.ofB hb0).mono ((hsl1.trans hsl2).trans hsl3))) (h_p0_l := (hb1.mono (hsl2.trans hsl3))) (h_p0_kinds := (hb2.mono hsl3)) (h_p0_writers := hb3) (H := H)).mono ?_; rintro e w2 ⟨rfl, H⟩; have H := bk3 H; have H := bk2 H; have H := bk1 H; have H := bk0 H; exact ⟨_, rfl, hΦ _ H⟩
  clear H; intro w1 H
  (try simp only [Act.put, List.setIfInBounds_toArray, List.set_cons_succ, List.set_cons_zero])
  apply seq_op (V := .slice Ar10 (small a0).length cr10) rfl
  · intro Φ hΦ; refine O_mv rfl rfl ?_; exact hΦ
  (try simp only [Act.put, List.setIfInBounds_toArray, List.set_cons_succ, List.set_cons_zero])
  refine seq_call rfl (fun Φ hΦ => by refine O_call1 rfl Try.func18 rfl rfl rfl hΦ) (assayerref04_Unique_w (a0 := (small a0)) (h_p0 := hr10) (hm := gx2) (H := H)) ?_
  clear H
  rintro e w1 ⟨rfl, H⟩; refine ⟨_, rfl, ?_⟩
  (try simp only [Act.put, List.setIfInBounds_toArray, List.set_cons_succ, List.set_cons_zero])
  apply seq_op (V := .bool (!((table_Table_Unique_f u1) == u2))) rfl
  · intro Φ hΦ; refine O_bin rfl rfl rfl eqg_bool (r_bne Try.underlying4) ?_; exact hΦ
  (try simp only [Act.put, List.setIfInBounds_toArray, List.set_cons_succ, List.set_cons_zero])
  refine list_end ?_
  refine then_norm ?_
  refine wp_cond_split rfl (fun hc => ?_) (fun hc => ?_)
  · have hc1 := hc
    clear hc
    replace hm := ifT hc1 hm
    refine wp_seq ?_
    refine wp_region_lit ?_
    apply seq_op (V := .bool false) rfl
    · intro Φ hΦ; refine O_as rfl rfl ?_; exact hΦ
    (try simp only [Act.put, List.setIfInBounds_toArray, List.set_cons_succ, List.set_cons_zero])
    refine list_end ?_
    refine then_norm ?_
    refine wp_ret ?_
    refine then_ret ?_
    have hm := Option.some.inj hm
    subst hm
    replace H := H.dropAt 3 rfl; simp only [List.eraseIdx_cons_succ, List.eraseIdx_cons_zero] at H
    replace H := H.dropAt 2 rfl; simp only [List.eraseIdx_cons_succ, List.eraseIdx_cons_zero] at H
    replace H := H.dropAt 1 rfl; simp only [List.eraseIdx_cons_succ, List.eraseIdx_cons_zero] at H
    replace H := H.dropAt 0 rfl; simp only [List.eraseIdx_cons_succ, List.eraseIdx_cons_zero] at H
    replace H := H.forget hS
    exact ret1 rfl (rv_tmp rfl) rfl ⟨rfl, H⟩
  · have hc1 := hc
    clear hc
    replace hm := ifF hc1 hm
    refine wp_skip ?_
    refine then_norm ?_
    refine wp_seq ?_
    refine wp_seq ?_
    refine wp_region_lit ?_
    apply seq_op (V := .slice Ar10 (small a0).length cr10) rfl
    · intro Φ hΦ; refine O_mv rfl rfl ?_; exact hΦ
    (try simp only [Act.put, List.setIfInBounds_toArray, List.set_cons_succ, List.set_cons_zero])
    apply seq_op (V := .int .i64 ((small a0).length : Int)) rfl
    · intro Φ hΦ; refine O_len rfl Try.underlying22 rfl ?_; exact hΦ
    (try simp only [Act.put, List.setIfInBounds_toArray, List.set_cons_succ, List.set_cons_zero])
    apply seq_op (V := .bool (((small a0).length : Int) == 0)) rfl
    · intro Φ hΦ; refine O_bin rfl rfl rfl eqg_int r_eql ?_; exact hΦ
    (try simp only [Act.put, List.setIfInBounds_toArray, List.set_cons_succ, List.set_cons_zero])
    refine list_end ?_
    refine then_norm ?_
    refine wp_cond_split rfl (fun hc => ?_) (fun hc => ?_)
    · have hc2 := hc
      clear hc
      replace hm := ifT hc2 hm
      refine wp_seq ?_
      refine wp_region_lit ?_
      apply seq_op (V := .pointer (some ⟨br20, 0, none⟩)) rfl
      · intro Φ hΦ; refine O_mv rfl rfl ?_; exact hΦ
      (try simp only [Act.put, List.setIfInBounds_toArray, List.set_cons_succ, List.set_cons_zero])
      refine seq_opH (V := .bool (table_Table_Unique_f u1)) H rfl ?_ ?_
      · intro Φ hΦ; refine O_call1 rfl Try.func17 rfl rfl rfl ?_; obtain ⟨sl0, hsl0, hb0, H, bk0, bg0⟩ := lendAt 0 rfl H; simp only [List.eraseIdx_cons_succ, List.eraseIdx_cons_zero, List.cons_append] at H bk0; obtain ⟨sl1, hsl1, hb1, H, bk1, bg1⟩ := lendOsl 0 rfl hsl0 H; simp only [List.eraseIdx_cons_succ, List.eraseIdx_cons_zero, List.cons_append] at H bk1; obtain ⟨sl2, hsl2, hb2, H, bk2, bg2⟩ := lendMapF 0 rfl H; simp only [List.eraseIdx_cons_succ, List.eraseIdx_cons_zero, List.cons_append] at H bk2; obtain ⟨sl3, hsl3, hb3, H, bk3, bg3⟩ := lendMapO 0 rfl ((hsl0.trans hsl1).trans hsl2) H; simp only [List.eraseIdx_cons_succ, List.eraseIdx_cons_zero, List.cons_append] at H bk3; refine (table_Table_Unique_w (a0 := u1) (hC_p0 := ((Cells.ofB hb0).mono ((hsl1.trans hsl2).trans hsl3))) (h_p0_l := (hb1.mono (hsl2.trans hsl3))) (h_p0_kinds := (hb2.mono hsl3)) (h_p0_writers := hb3) (H := H)).mono ?_; rintro e w2 ⟨rfl, H⟩; have H := bk3 H; have H := bk2 H; have H := bk1 H; have H := bk0 H; exact ⟨_, rfl, hΦ _ H⟩
      clear H; intro w1 H
      (try simp only [Act.put, List.setIfInBounds_toArray, List.set_cons_succ, List.set_cons_zero])
      apply seq_op (V := .bool (table_Table_Unique_f u1)) rfl
      · intro Φ hΦ; refine O_as rfl rfl ?_; exact hΦ
      (try simp only [Act.put, List.setIfInBounds_toArray, List.set_cons_succ, List.set_cons_zero])
      refine list_end ?_
      refine then_norm ?_
      refine wp_ret ?_
      refine then_ret ?_
      have hm := Option.some.inj hm
      subst hm
      replace H := H.dropAt 3 rfl; simp only [List.eraseIdx_cons_succ, List.eraseIdx_cons_zero] at H
      replace H := H.dropAt 2 rfl; simp only [List.eraseIdx_cons_succ, List.eraseIdx_cons_zero] at H
      replace H := H.dropAt 1 rfl; simp only [List.eraseIdx_cons_succ, List.eraseIdx_cons_zero] at H
      replace H := H.dropAt 0 rfl; simp only [List.eraseIdx_cons_succ, List.eraseIdx_cons_zero] at H
      replace H := H.forget hS
      exact ret1 rfl (rv_tmp rfl) rfl ⟨rfl, H⟩
    · have hc2 := hc
      clear hc
      replace hm := ifF hc2 hm
      refine wp_skip ?_
      refine then_norm ?_
      refine wp_seq ?_
      obtain ⟨u3, gx3, hm⟩ := bs hm
      obtain ⟨u4, gx4, hm⟩ := bs hm
      obtain ⟨kk1, gk1, gl1, gd1⟩ := rdI_some gx4
      obtain ⟨be1, oe1, A4e1, c4e1, rfl, hCe1, h0e1, h1e1, h2e1, h3e1, h4e1⟩ := kT_el hr10 gd1
      refine wp_region_lit ?_
      apply seq_op (V := .slice (some ⟨be1, oe1, none⟩) (small a0).length cr10) rfl
      · intro Φ hΦ; refine O_mv rfl rfl ?_; exact hΦ
      (try simp only [Act.put, List.setIfInBounds_toArray, List.set_cons_succ, List.set_cons_zero])
      apply seq_op (V := .int .i64 a1) rfl
      · intro Φ hΦ; refine O_mv rfl rfl ?_; exact hΦ
      (try simp only [Act.put, List.setIfInBounds_toArray, List.set_cons_succ, List.set_cons_zero])
      apply seq_op (V := .int .u64 (IntKind.u64.wrap a1)) rfl
      · intro Φ hΦ; refine O_cnv rfl (by rw [Try.underlying3]; rfl) Try.underlying31 rfl ?_; exact hΦ
      (try simp only [Act.put, List.setIfInBounds_toArray, List.set_cons_succ, List.set_cons_zero])
      apply seq_op (V := .slice (some ⟨be1, oe1, none⟩) (small a0).length cr10) rfl
      · intro Φ hΦ; refine O_mv rfl rfl ?_; exact hΦ
      (try simp only [Act.put, List.setIfInBounds_toArray, List.set_cons_succ, List.set_cons_zero])
      apply seq_op (V := .int .i64 ((small a0).length : Int)) rfl
      · intro Φ hΦ; refine O_len rfl Try.underlying22 rfl ?_; exact hΦ
      (try simp only [Act.put, List.setIfInBounds_toArray, List.set_cons_succ, List.set_cons_zero])
      apply seq_op (V := .int .u64 (IntKind.u64.wrap ((small a0).length : Int))) rfl
      · intro Φ hΦ; refine O_cnv rfl (by rw [Try.underlying3]; rfl) Try.underlying31 rfl ?_; exact hΦ
      (try simp only [Act.put, List.setIfInBounds_toArray, List.set_cons_succ, List.set_cons_zero])
      apply seq_op (V := .int .u64 u3) rfl
      · intro Φ hΦ; refine O_bin rfl rfl rfl eqg_int (r_rem gx3) ?_; exact hΦ
      (try simp only [Act.put, List.setIfInBounds_toArray, List.set_cons_succ, List.set_cons_zero])
      apply seq_op (V := .int .i64 (IntKind.i64.wrap u3)) rfl
      · intro Φ hΦ; refine O_cnv rfl (by rw [Try.underlying31]; rfl) Try.underlying3 rfl ?_; exact hΦ
      (try simp only [Act.put, List.setIfInBounds_toArray, List.set_cons_succ, List.set_cons_zero])
      apply seq_op (V := .pointer (some ⟨be1, oe1 + kk1 * 5, none⟩)) rfl
      · intro Φ hΦ; refine O_ix rfl Try.underlying22 (Try.sizeOf30 _) rfl rfl gk1 gl1 ?_; exact hΦ
      (try simp only [Act.put, List.setIfInBounds_toArray, List.set_cons_succ, List.set_cons_zero])
      apply seq_op (V := .agg #[.int .i64 u4.proc, .int .i64 u4.state, .int .i64 u4.from_, .int .i64 u4.to, .slice A4e1 u4.ops.length c4e1]) rfl
      · intro Φ hΦ; refine G_sN _ _ rfl (Try.isAgg30 _) rfl H hCe1 (Try.sizeOf30 _) ?_; exact hΦ
      (try simp only [Act.put, List.setIfInBounds_toArray, List.set_cons_succ, List.set_cons_zero])
      refine OpG.list rfl ?_; refine G_alloc 30 rfl (Try.zeroValue30 _) H ?_; clear H; intro b6 w1 H; (try simp only [Value.cells] at H)
      (try simp only [Act.put, List.setIfInBounds_toArray, List.set_cons_succ, List.set_cons_zero])
      refine OpG.list rfl ?_; refine G_setNi 0 (c := [.int .i64 u4.proc, .int .i64 u4.state, .int .i64 u4.from_, .int .i64 u4.to, .slice A4e1 u4.ops.length c4e1]) _ _ _ rfl (Try.sizeOf30 _) rfl rfl (by simp [Value.oneCell']) H rfl rfl ?_; clear H; intro w1 H; simp only [List.set_cons_succ, List.set_cons_zero] at H
      (try simp only [Act.put, List.setIfInBounds_toArray, List.set_cons_succ, List.set_cons_zero])
      refine list_end ?_
      refine then_norm ?_
      refine wp_seq ?_
      refine wp_region_lit ?_
      apply seq_op (V := .pointer (some ⟨b6, 4, none⟩)) rfl
      · intro Φ hΦ; refine O_fld rfl Try.underlying30 rfl (Try.sizeOf28 _) rfl ?_; exact hΦ
      (try simp only [Act.put, List.setIfInBounds_toArray, List.set_cons_succ, List.set_cons_zero])
      apply seq_op (V := .slice A4e1 u4.ops.length c4e1) rfl
      · intro Φ hΦ; refine L_1 0 _ _ rfl (Try.isAgg28 _) rfl H rfl rfl ?_; exact hΦ
      (try simp only [Act.put, List.setIfInBounds_toArray, List.set_cons_succ, List.set_cons_zero])
      refine seq_call rfl (fun Φ hΦ => by refine O_call2 rfl Try.func19 rfl rfl rfl rfl hΦ) (slices_ContainsFunc_Op_assayerlaw04_TableUnique_1_w (a0 := u4.ops) (h_p0 := h4e1) (H := H)) ?_
      clear H
      rintro e w1 ⟨rfl, H⟩; refine ⟨_, rfl, ?_⟩
      (try simp only [Act.put, List.setIfInBounds_toArray, List.set_cons_succ, List.set_cons_zero])
      apply seq_op (V := .bool (slices_ContainsFunc_Op_assayerlaw04_TableUnique_1_f u4.ops)) rfl
      · intro Φ hΦ; refine O_as rfl rfl ?_; exact hΦ
      (try simp only [Act.put, List.setIfInBounds_toArray, List.set_cons_succ, List.set_cons_zero])
      refine list_end ?_
      refine then_norm ?_
      refine wp_seq ?_
      obtain ⟨u54401, gx54401, hm⟩ := bs hm
      obtain ⟨hroomgx54401, egx54401⟩ := app_some gx54401
      obtain ⟨u54501, gx54501, hm⟩ := bs hm
      refine wp_draw_P (k := 6) (sz := 59) [1, 3, 4, 5] [[false, false, false, false], [true, false, false, false], [false, true, false, false], [true, true, false, false], [true, true, true, false], [true, true, true, true]] [(0, 0, 1), (0, 1, 2), (1, 1, 3), (2, 0, 3), (3, 2, 4), (4, 3, 5)] [.slice (some ⟨be1, oe1, none⟩) (small a0).length cr10, undef, .agg #[.int .i64 u4.proc, .int .i64 u4.state, .int .i64 u4.from_, .int .i64 u4.to, .slice A4e1 u4.ops.length c4e1], undef, undef, undef] [pt b6 (.cells #[.int .i64 u4.proc, .int .i64 u4.state, .int .i64 u4.from_, .int .i64 u4.to, .slice A4e1 u4.ops.length c4e1] 30 (0, 0))] [fun w x => ∃ (sc : SH) (Ar541010 : Option Addr) (cr541010 : Nat), Sub s2 sc ∧ x 1 = .slice Ar541010 (small a0).length cr541010 ∧ Holds E sc ((kT.sh sc).Osl (.slice Ar541010 (small a0).length cr541010) (small a0) :: pt b6 (.cells #[.int .i64 u4.proc, .int .i64 u4.state, .int .i64 u4.from_, .int .i64 u4.to, .slice A4e1 u4.ops.length c4e1] 30 (0, 0)) :: pt br20 (.cells #[.slice Ar20_l u1.l.length cr20_l, .map (some rr20_kinds), .map (some rr20_writers), .bool u1.made] 98 (0, 0)) :: (kT.sh sc).Osl (.slice Ar20_l u1.l.length cr20_l) u1.l :: mpF kcS vcI rr20_kinds u1.kinds :: mpO kcP kWr sc rr20_writers u1.writers :: L) w, fun w x => ∃ (sc : SH) (b39 : Nat), Sub s2 sc ∧ x 3 = .slice (some ⟨b39, 0, none⟩) 1 1 ∧ Holds E sc (pt b39 (.cells #[.int .i64 u4.proc, .int .i64 u4.state, .int .i64 u4.from_, .int .i64 u4.to, .slice A4e1 u4.ops.length c4e1] 30 (0, 0)) :: pt b6 (.cells #[.int .i64 u4.proc, .int .i64 u4.state, .int .i64 u4.from_, .int .i64 u4.to, .slice A4e1 u4.ops.length c4e1] 30 (0, 0)) :: pt br20 (.cells #[.slice Ar20_l u1.l.length cr20_l, .map (some rr20_kinds), .map (some rr20_writers), .bool u1.made] 98 (0, 0)) :: (kT.sh sc).Osl (.slice Ar20_l u1.l.length cr20_l) u1.l :: mpF kcS vcI rr20_kinds u1.kinds :: mpO kcP kWr sc rr20_writers u1.writers :: L) w, fun w x => ∃ (sc : SH) (Ar541010 : Option Addr) (cr541010 : Nat) (b39 : Nat), Sub s2 sc ∧ x 1 = .slice Ar541010 (small a0).length cr541010 ∧ x 3 = .slice (some ⟨b39, 0, none⟩) 1 1 ∧ Holds E sc (pt b39 (.cells #[.int .i64 u4.proc, .int .i64 u4.state, .int .i64 u4.from_, .int .i64 u4.to, .slice A4e1 u4.ops.length c4e1] 30 (0, 0)) :: (kT.sh sc).Osl (.slice Ar541010 (small a0).length cr541010) (small a0) :: pt b6 (.cells #[.int .i64 u4.proc, .int .i64 u4.state, .int .i64 u4.from_, .int .i64 u4.to, .slice A4e1 u4.ops.length c4e1] 30 (0, 0)) :: pt br20 (.cells #[.slice Ar20_l u1.l.length cr20_l, .map (some rr20_kinds), .map (some rr20_writers), .bool u1.made] 98 (0, 0)) :: (kT.sh sc).Osl (.slice Ar20_l u1.l.length cr20_l) u1.l :: mpF kcS vcI rr20_kinds u1.kinds :: mpO kcP kWr sc rr20_writers u1.writers :: L) w, fun w x => ∃ (sc : SH) (Ar541010 : Option Addr) (cr541010 : Nat) (b39 : Nat) (Av54401 : Option Addr) (cv54401 : Nat), Sub s2 sc ∧ x 1 = .slice Ar541010 (small a0).length cr541010 ∧ x 3 = .slice (some ⟨b39, 0, none⟩) 1 1 ∧ x 4 = .slice Av54401 u54401.length cv54401 ∧ Holds E sc ((kT.sh sc).Osl (.slice Av54401 u54401.length cv54401) u54401 :: pt b6 (.cells #[.int .i64 u4.proc, .int .i64 u4.state, .int .i64 u4.from_, .int .i64 u4.to, .slice A4e1 u4.ops.length c4e1] 30 (0, 0)) :: pt br20 (.cells #[.slice Ar20_l u1.l.length cr20_l, .map (some rr20_kinds), .map (some rr20_writers), .bool u1.made] 98 (0, 0)) :: (kT.sh sc).Osl (.slice Ar20_l u1.l.length cr20_l) u1.l :: mpF kcS vcI rr20_kinds u1.kinds :: mpO kcP kWr sc rr20_writers u1.writers :: L) w, fun w x => ∃ (sc : SH) (Ar541010 : Option Addr) (cr541010 : Nat) (b39 : Nat) (Av54401 : Option Addr) (cv54401 : Nat) (br545010 : Nat) (Ar545010_l : Option Addr) (cr545010_l : Nat) (rr545010_kinds : Nat) (rr545010_writers : Nat), Sub s2 sc ∧ kT.Sl sc (.slice Av54401 u54401.length cv54401) u54401 ∧ x 1 = .slice Ar541010 (small a0).length cr541010 ∧ x 3 = .slice (some ⟨b39, 0, none⟩) 1 1 ∧ x 4 = .slice Av54401 u54401.length cv54401 ∧ x 5 = .pointer (some ⟨br545010, 0, none⟩) ∧ Holds E sc (pt br545010 (.cells #[.slice Ar545010_l u54501.l.length cr545010_l, .map (some rr545010_kinds), .map (some rr545010_writers), .bool u54501.made] 98 (0, 0)) :: (kT.sh sc).Osl (.slice Ar545010_l u54501.l.length cr545010_l) u54501.l :: mpF kcS vcI rr545010_kinds u54501.kinds :: mpO kcP kWr sc rr545010_writers u54501.writers :: pt b6 (.cells #[.int .i64 u4.proc, .int .i64 u4.state, .int .i64 u4.from_, .int .i64 u4.to, .slice A4e1 u4.ops.length c4e1] 30 (0, 0)) :: pt br20 (.cells #[.slice Ar20_l u1.l.length cr20_l, .map (some rr20_kinds), .map (some rr20_writers), .bool u1.made] 98 (0, 0)) :: (kT.sh sc).Osl (.slice Ar20_l u1.l.length cr20_l) u1.l :: mpF kcS vcI rr20_kinds u1.kinds :: mpO kcP kWr sc rr20_writers u1.writers :: L) w] mixed (by simp) rfl (by kernel_rfl) (by kernel_rfl) (by kernel_rfl) (by simp) rfl H (by simp only [List.take_succ_cons, List.take_zero]; exact rfl) (by simp only [List.drop_succ_cons, List.drop_zero]; exact rfl)
        (fun x => by simp only [ov, Act.put, List.setIfInBounds_toArray, List.set_cons_succ, List.set_cons_zero, Nat.zero_add, Nat.reduceAdd]; exact rfl) ?_ ?_ ?_ ?_
      · refine ⟨?_, ?_, ?_, ?_, ?_, ?_, trivial⟩
        · intro w x hS; have H : Holds E s2 (pt b6 (.cells #[.int .i64 u4.proc, .int .i64 u4.state, .int .i64 u4.from_, .int .i64 u4.to, .slice A4e1 u4.ops.length c4e1] 30 (0, 0)) :: pt br20 (.cells #[.slice Ar20_l u1.l.length cr20_l, .map (some rr20_kinds), .map (some rr20_writers), .bool u1.made] 98 (0, 0)) :: (kT.sh s2).Osl (.slice Ar20_l u1.l.length cr20_l) u1.l :: mpF kcS vcI rr20_kinds u1.kinds :: mpO kcP kWr s2 rr20_writers u1.writers :: L) w := hS; exact ⟨_, _, Sub.refl _, H⟩
        · intro w x hS; obtain ⟨sc, Ar541010, cr541010, hsc, e1, H⟩ := hS; replace H := H.front 1 rfl; simp only [List.eraseIdx_cons_succ, List.eraseIdx_cons_zero] at H; exact ⟨_, _, hsc, H⟩
        · intro w x hS; obtain ⟨sc, b39, hsc, e3, H⟩ := hS; replace H := H.front 1 rfl; simp only [List.eraseIdx_cons_succ, List.eraseIdx_cons_zero] at H; exact ⟨_, _, hsc, H⟩
        · intro w x hS; obtain ⟨sc, Ar541010, cr541010, b39, hsc, e1, e3, H⟩ := hS; replace H := H.front 2 rfl; simp only [List.eraseIdx_cons_succ, List.eraseIdx_cons_zero] at H; exact ⟨_, _, hsc, H⟩
        · intro w x hS; obtain ⟨sc, Ar541010, cr541010, b39, Av54401, cv54401, hsc, e1, e3, e4, H⟩ := hS; replace H := H.front 1 rfl; simp only [List.eraseIdx_cons_succ, List.eraseIdx_cons_zero] at H; exact ⟨_, _, hsc, H⟩
        · intro w x hS; obtain ⟨sc, Ar541010, cr541010, b39, Av54401, cv54401, br545010, Ar545010_l, cr545010_l, rr545010_kinds, rr545010_writers, hsc, hf54501, e1, e3, e4, e5, H⟩ := hS; replace H := H.front 4 rfl; simp only [List.eraseIdx_cons_succ, List.eraseIdx_cons_zero] at H; exact ⟨_, _, hsc, H⟩
      · refine ⟨?_, ?_, ?_, ?_, ?_, ?_, trivial⟩
        · refine .inr ?_; intro s' R w' x Φ hs H hx hΦ; refine wantG rfl ?_; refine O_mv rfl rfl ?_; exact hΦ
        · exact .inl (by decide)
        · refine .inr ?_; intro s' R w' x Φ hs H hx hΦ; refine wantG rfl ?_; refine G_pNi 0 _ _ rfl (Try.isAgg30 _) rfl H rfl (Try.sizeOf30 _) ?_; exact hΦ
        · exact .inl (by decide)
        · exact .inl (by decide)
        · exact .inl (by decide)
      · refine ⟨?_, ?_, ?_, ?_, ?_, ?_, trivial⟩
        · intro c o S0 S1 hc ho h0 h1; obtain rfl := Option.some.inj hc; obtain rfl := Option.some.inj ho; obtain rfl := Option.some.inj h0; obtain rfl := Option.some.inj h1; intro w' x Φ hS hx hΦ
          have H : Holds E s2 (pt b6 (.cells #[.int .i64 u4.proc, .int .i64 u4.state, .int .i64 u4.from_, .int .i64 u4.to, .slice A4e1 u4.ops.length c4e1] 30 (0, 0)) :: pt br20 (.cells #[.slice Ar20_l u1.l.length cr20_l, .map (some rr20_kinds), .map (some rr20_writers), .bool u1.made] 98 (0, 0)) :: (kT.sh s2).Osl (.slice Ar20_l u1.l.length cr20_l) u1.l :: mpF kcS vcI rr20_kinds u1.kinds :: mpO kcP kWr s2 rr20_writers u1.writers :: L) w' := hS; clear hS
          have hsc := Sub.refl s2
          have e0 : x 0 = .slice (some ⟨be1, oe1, none⟩) (small a0).length cr10 := hx 0 (by decide) (by decide)
          simp only [e0]
          refine wantG rfl ?_
          refine O_call1 rfl Try.func21 rfl rfl rfl ?_; refine (clone_kT_w (a0 := (small a0)) (h_p0 := hr10) (H := H)).mono ?_
          clear H
          rintro e w1 ⟨Ar541010, cr541010, nr541010, rfl, H⟩; refine ⟨_, rfl, ?_⟩
          obtain rfl := osl_len 0 H rfl
          exact hΦ _ _ ⟨s2, Ar541010, cr541010, hsc, updV_same, H⟩
        · intro c o S0 S1 hc ho h0 h1; obtain rfl := Option.some.inj hc; obtain rfl := Option.some.inj ho; obtain rfl := Option.some.inj h0; obtain rfl := Option.some.inj h1; intro w' x Φ hS hx hΦ
          have H : Holds E s2 (pt b6 (.cells #[.int .i64 u4.proc, .int .i64 u4.state, .int .i64 u4.from_, .int .i64 u4.to, .slice A4e1 u4.ops.length c4e1] 30 (0, 0)) :: pt br20 (.cells #[.slice Ar20_l u1.l.length cr20_l, .map (some rr20_kinds), .map (some rr20_writers), .bool u1.made] 98 (0, 0)) :: (kT.sh s2).Osl (.slice Ar20_l u1.l.length cr20_l) u1.l :: mpF kcS vcI rr20_kinds u1.kinds :: mpO kcP kWr s2 rr20_writers u1.writers :: L) w' := hS; clear hS
          have hsc := Sub.refl s2
          have e2 : x 2 = .agg #[.int .i64 u4.proc, .int .i64 u4.state, .int .i64 u4.from_, .int .i64 u4.to, .slice A4e1 u4.ops.length c4e1] := hx 2 (by decide) (by decide)
          simp only [e2]
          refine wantG rfl ?_
          refine SL_1 rfl (v := .agg #[.int .i64 u4.proc, .int .i64 u4.state, .int .i64 u4.from_, .int .i64 u4.to, .slice A4e1 u4.ops.length c4e1]) rfl Try.underlying22 Try.sizeOf30 Try.zeroValue30 rfl rfl (by decide) (by decide) H ?_; clear H; intro b39 w1 H; (try simp only [Value.cells] at H)
          exact hΦ _ _ ⟨s2, b39, hsc, updV_same, H⟩
        · intro c o S0 S1 hc ho h0 h1; obtain rfl := Option.some.inj hc; obtain rfl := Option.some.inj ho; obtain rfl := Option.some.inj h0; obtain rfl := Option.some.inj h1; intro w' x Φ hS hx hΦ
          obtain ⟨sc, Ar541010, cr541010, hsc, e1, H⟩ := hS
          replace h_p0 := h_p0.mono hsc
          replace hr10 := hr10.mono hsc
          replace hCe1 := hCe1.mono hsc
          replace h4e1 := h4e1.mono hsc
          have e2 : x 2 = .agg #[.int .i64 u4.proc, .int .i64 u4.state, .int .i64 u4.from_, .int .i64 u4.to, .slice A4e1 u4.ops.length c4e1] := hx 2 (by decide) (by decide)
          simp only [e2]
          refine wantG rfl ?_
          refine SL_1 rfl (v := .agg #[.int .i64 u4.proc, .int .i64 u4.state, .int .i64 u4.from_, .int .i64 u4.to, .slice A4e1 u4.ops.length c4e1]) rfl Try.underlying22 Try.sizeOf30 Try.zeroValue30 rfl rfl (by decide) (by decide) H ?_; clear H; intro b39 w1 H; (try simp only [Value.cells] at H)
          exact hΦ _ _ ⟨sc, Ar541010, cr541010, b39, hsc, (updV_ne (by decide)).trans e1, updV_same, H⟩
        · intro c o S0 S1 hc ho h0 h1; obtain rfl := Option.some.inj hc; obtain rfl := Option.some.inj ho; obtain rfl := Option.some.inj h0; obtain rfl := Option.some.inj h1; intro w' x Φ hS hx hΦ
          obtain ⟨sc, b39, hsc, e3, H⟩ := hS
          replace h_p0 := h_p0.mono hsc
          replace hr10 := hr10.mono hsc
          replace hCe1 := hCe1.mono hsc
          replace h4e1 := h4e1.mono hsc
          have e0 : x 0 = .slice (some ⟨be1, oe1, none⟩) (small a0).length cr10 := hx 0 (by decide) (by decide)
          simp only [e0]
          refine wantG rfl ?_
          refine O_call1 rfl Try.func21 rfl rfl rfl ?_; refine (clone_kT_w (a0 := (small a0)) (h_p0 := hr10) (H := H)).mono ?_
          clear H
          rintro e w1 ⟨Ar541010, cr541010, nr541010, rfl, H⟩; refine ⟨_, rfl, ?_⟩
          obtain rfl := osl_len 0 H rfl
          replace H := H.front 6 rfl; simp only [List.eraseIdx_cons_succ, List.eraseIdx_cons_zero] at H
          replace H := H.front 6 rfl; simp only [List.eraseIdx_cons_succ, List.eraseIdx_cons_zero] at H
          replace H := H.front 6 rfl; simp only [List.eraseIdx_cons_succ, List.eraseIdx_cons_zero] at H
          replace H := H.front 6 rfl; simp only [List.eraseIdx_cons_succ, List.eraseIdx_cons_zero] at H
          replace H := H.front 6 rfl; simp only [List.eraseIdx_cons_succ, List.eraseIdx_cons_zero] at H
          replace H := H.front 5 rfl; simp only [List.eraseIdx_cons_succ, List.eraseIdx_cons_zero] at H
          replace H := H.front 6 rfl; simp only [List.eraseIdx_cons_succ, List.eraseIdx_cons_zero] at H
          exact hΦ _ _ ⟨sc, Ar541010, cr541010, b39, hsc, updV_same, (updV_ne (by decide)).trans e3, H⟩
        · intro c o S0 S1 hc ho h0 h1; obtain rfl := Option.some.inj hc; obtain rfl := Option.some.inj ho; obtain rfl := Option.some.inj h0; obtain rfl := Option.some.inj h1; intro w' x Φ hS hx hΦ
          obtain ⟨sc, Ar541010, cr541010, b39, hsc, e1, e3, H⟩ := hS
          replace h_p0 := h_p0.mono hsc
          replace hr10 := hr10.mono hsc
          replace hCe1 := hCe1.mono hsc
          replace h4e1 := h4e1.mono hsc
          simp only [e1, e3]
          refine wantG rfl ?_
          refine AP_1 (p := u4) 0 kT_at _ _ rfl (kT_mk' (s := sc) (x := u4) h0e1 h1e1 h2e1 h3e1 h4e1) H rfl rfl rfl hroomgx54401 ?_; clear H; intro v54401 w1 H; (try simp only [List.set_cons_succ, List.set_cons_zero] at H)
          rw [← egx54401] at H
          obtain ⟨Av54401, cv54401, rfl, -⟩ := (H.front 0 rfl).len
          exact hΦ _ _ ⟨sc, Ar541010, cr541010, b39, Av54401, cv54401, hsc, (updV_ne (by decide)).trans e1, (updV_ne (by decide)).trans e3, updV_same, H⟩
        · intro c o S0 S1 hc ho h0 h1; obtain rfl := Option.some.inj hc; obtain rfl := Option.some.inj ho; obtain rfl := Option.some.inj h0; obtain rfl := Option.some.inj h1; intro w' x Φ hS hx hΦ
          obtain ⟨sc, Ar541010, cr541010, b39, Av54401, cv54401, hsc, e1, e3, e4, H⟩ := hS
          replace h_p0 := h_p0.mono hsc
          replace hr10 := hr10.mono hsc
          replace hCe1 := hCe1.mono hsc
          replace h4e1 := h4e1.mono hsc
          simp only [e4]
          refine wantG rfl ?_
          skip
          obtain ⟨s54501, hs', H, hf54501⟩ := Kin.Osl.fr H; replace hf54501 := hf54501.unsh hs'
          replace h_p0 := h_p0.mono hs'
          replace hr10 := hr10.mono hs'
          replace hCe1 := hCe1.mono hs'
          replace h4e1 := h4e1.mono hs'
          replace H := Holds.mapAt (A := (kT.sh sc).Osl (.slice Ar20_l u1.l.length cr20_l) u1.l) (B := (kT.sh s54501).Osl (.slice Ar20_l u1.l.length cr20_l) u1.l) 2 rfl (fun h k => Kin.Osl.sh_mono (d := kT) hs' h k) H; simp only [List.set_cons_succ, List.set_cons_zero] at H
          replace H := Holds.mapAt (A := mpO kcP kWr sc rr20_writers u1.writers) (B := mpO kcP kWr s54501 rr20_writers u1.writers) 4 rfl (fun h k => mpO_mono hs' h k) H; simp only [List.set_cons_succ, List.set_cons_zero] at H
          replace hsc := hsc.trans hs'
          refine O_call1 rfl Try.func16 rfl rfl rfl ?_; refine (table_New_w (a0 := u54401) (h_p0 := hf54501) (hm := gx54501) (H := H)).mono ?_
          clear H
          rintro e w1 ⟨br545010, Ar545010_l, cr545010_l, nr545010_l, rr545010_kinds, rr545010_writers, s54502, rfl, hs', H⟩; refine ⟨_, rfl, ?_⟩
          obtain rfl := osl_len 1 H rfl
          replace h_p0 := h_p0.mono hs'
          replace hr10 := hr10.mono hs'
          replace hCe1 := hCe1.mono hs'
          replace h4e1 := h4e1.mono hs'
          replace hf54501 := hf54501.mono hs'
          replace H := Holds.mapAt (A := (kT.sh s54501).Osl (.slice Ar20_l u1.l.length cr20_l) u1.l) (B := (kT.sh s54502).Osl (.slice Ar20_l u1.l.length cr20_l) u1.l) 6 rfl (fun h k => Kin.Osl.sh_mono (d := kT) hs' h k) H; simp only [List.set_cons_succ, List.set_cons_zero] at H
          replace H := Holds.mapAt (A := mpO kcP kWr s54501 rr20_writers u1.writers) (B := mpO kcP kWr s54502 rr20_writers u1.writers) 8 rfl (fun h k => mpO_mono hs' h k) H; simp only [List.set_cons_succ, List.set_cons_zero] at H
          replace hsc := hsc.trans hs'
          exact hΦ _ _ ⟨s54502, Ar541010, cr541010, b39, Av54401, cv54401, br545010, Ar545010_l, cr545010_l, rr545010_kinds, rr545010_writers, hsc, hf54501, (updV_ne (by decide)).trans e1, (updV_ne (by decide)).trans e3, (updV_ne (by decide)).trans e4, updV_same, H⟩
      · clear H
        intro w' x hS hx
        obtain ⟨sc, Ar541010, cr541010, b39, Av54401, cv54401, br545010, Ar545010_l, cr545010_l, rr545010_kinds, rr545010_writers, hsc, hf54501, e1, e3, e4, e5, H⟩ := hS
        replace h_p0 := h_p0.mono hsc
        replace hr10 := hr10.mono hsc
        replace hCe1 := hCe1.mono hsc
        replace h4e1 := h4e1.mono hsc
        replace hS := hS.trans hsc
        have e0 : x 0 = .slice (some ⟨be1, oe1, none⟩) (small a0).length cr10 := hx 0 (by decide) (by decide)
        have e2 : x 2 = .agg #[.int .i64 u4.proc, .int .i64 u4.state, .int .i64 u4.from_, .int .i64 u4.to, .slice A4e1 u4.ops.length c4e1] := hx 2 (by decide) (by decide)
        simp only [e0, e1, e2, e3, e4, e5]
        clear hx
        apply seq_op (V := .pointer (some ⟨br545010, 0, none⟩)) rfl
        · intro Φ hΦ; refine O_as rfl rfl ?_; exact hΦ
        (try simp only [Act.put, List.setIfInBounds_toArray, List.set_cons_succ, List.set_cons_zero])
        refine list_end ?_
        refine then_norm ?_
        refine wp_seq ?_
        refine wp_region_lit ?_
        apply seq_op (V := .pointer (some ⟨br545010, 0, none⟩)) rfl
        · intro Φ hΦ; refine O_mv rfl rfl ?_; exact hΦ
        (try simp only [Act.put, List.setIfInBounds_toArray, List.set_cons_succ, List.set_cons_zero])
        refine seq_opH (V := .bool (table_Table_Unique_f u54501)) H rfl ?_ ?_
        · intro Φ hΦ; refine O_call1 rfl Try.func17 rfl rfl rfl ?_; obtain ⟨sl0, hsl0, hb0, H, bk0, bg0⟩ := lendAt 0 rfl H; simp only [List.eraseIdx_cons_succ, List.eraseIdx_cons_zero, List.cons_append] at H bk0; obtain ⟨sl1, hsl1, hb1, H, bk1, bg1⟩ := lendOsl 0 rfl hsl0 H; simp only [List.eraseIdx_cons_succ, List.eraseIdx_cons_zero, List.cons_append] at H bk1; obtain ⟨sl2, hsl2, hb2, H, bk2, bg2⟩ := lendMapF 0 rfl H; simp only [List.eraseIdx_cons_succ, List.eraseIdx_cons_zero, List.cons_append] at H bk2; obtain ⟨sl3, hsl3, hb3, H, bk3, bg3⟩ := lendMapO 0 rfl ((hsl0.trans hsl1).trans hsl2) H; simp only [List.eraseIdx_cons_succ, List.eraseIdx_cons_zero, List.cons_append] at H bk3; refine (table_Table_Unique_w (a0 := u54501) (hC_p0 := ((Cells.ofB hb0).mono ((hsl1.trans hsl2).trans hsl3))) (h_p0_l := (hb1.mono (hsl2.trans hsl3))) (h_p0_kinds := (hb2.mono hsl3)) (h_p0_writers := hb3) (H := H)).mono ?_; rintro e w2 ⟨rfl, H⟩; have H := bk3 H; have H := bk2 H; have H := bk1 H; have H := bk0 H; exact ⟨_, rfl, hΦ _ H⟩
        clear H; intro w1 H
        (try simp only [Act.put, List.setIfInBounds_toArray, List.set_cons_succ, List.set_cons_zero])
        apply seq_op (V := .bool (slices_ContainsFunc_Op_assayerlaw04_TableUnique_1_f u4.ops)) rfl
        · intro Φ hΦ; refine O_mv rfl rfl ?_; exact hΦ
        (try simp only [Act.put, List.setIfInBounds_toArray, List.set_cons_succ, List.set_cons_zero])
        apply seq_op (V := .bool (!(slices_ContainsFunc_Op_assayerlaw04_TableUnique_1_f u4.ops))) rfl
        · intro Φ hΦ; refine O_not rfl rfl ?_; exact hΦ
        (try simp only [Act.put, List.setIfInBounds_toArray, List.set_cons_succ, List.set_cons_zero])
        apply seq_op (V := .bool (!(slices_ContainsFunc_Op_assayerlaw04_TableUnique_1_f u4.ops))) rfl
        · intro Φ hΦ; refine O_mv rfl rfl ?_; exact hΦ
        (try simp only [Act.put, List.setIfInBounds_toArray, List.set_cons_succ, List.set_cons_zero])
        refine seq_opg (c := (!(slices_ContainsFunc_Op_assayerlaw04_TableUnique_1_f u4.ops))) (V := .pointer (some ⟨br20, 0, none⟩)) (by first | exact wanted_t rfl rfl rfl | exact wanted_vt rfl rfl rfl) ?_ ?_
        · intro hc Φ hΦ; refine O_mv rfl rfl ?_; exact hΦ
        (try simp only [Act.put, List.setIfInBounds_toArray, List.set_cons_succ, List.set_cons_zero])
        refine seq_opgH (c := (!(slices_ContainsFunc_Op_assayerlaw04_TableUnique_1_f u4.ops))) (V := .bool (table_Table_Unique_f u1)) H (by first | exact wanted_t rfl rfl rfl | exact wanted_vt rfl rfl rfl) ?_ ?_
        · intro hc Φ hΦ; (repeat (first | rw [vg_of hc] | rw [vg_of (and_l hc)] | rw [vg_of (and_l (and_l hc))] | rw [vg_of (and_l (and_l (and_l hc)))] | rw [vg_and hc])); refine O_call1 rfl Try.func17 rfl rfl rfl ?_; obtain ⟨sl0, hsl0, hb0, H, bk0, bg0⟩ := lendAt 5 rfl H; simp only [List.eraseIdx_cons_succ, List.eraseIdx_cons_zero, List.cons_append] at H bk0; obtain ⟨sl1, hsl1, hb1, H, bk1, bg1⟩ := lendOsl 5 rfl hsl0 H; simp only [List.eraseIdx_cons_succ, List.eraseIdx_cons_zero, List.cons_append] at H bk1; obtain ⟨sl2, hsl2, hb2, H, bk2, bg2⟩ := lendMapF 5 rfl H; simp only [List.eraseIdx_cons_succ, List.eraseIdx_cons_zero, List.cons_append] at H bk2; obtain ⟨sl3, hsl3, hb3, H, bk3, bg3⟩ := lendMapO 5 rfl ((hsl0.trans hsl1).trans hsl2) H; simp only [List.eraseIdx_cons_succ, List.eraseIdx_cons_zero, List.cons_append] at H bk3; refine (table_Table_Unique_w (a0 := u1) (hC_p0 := ((Cells.ofB hb0).mono ((hsl1.trans hsl2).trans hsl3))) (h_p0_l := (hb1.mono (hsl2.trans hsl3))) (h_p0_kinds := (hb2.mono hsl3)) (h_p0_writers := hb3) (H := H)).mono ?_; rintro e w2 ⟨rfl, H⟩; have H := bk3 H; have H := bk2 H; have H := bk1 H; have H := bk0 H; exact ⟨_, rfl, hΦ _ H⟩
        clear H; intro w1 H
        (try simp only [Act.put, List.setIfInBounds_toArray, List.set_cons_succ, List.set_cons_zero])
        apply seq_op (V := .bool ((!(slices_ContainsFunc_Op_assayerlaw04_TableUnique_1_f u4.ops)) && (table_Table_Unique_f u1))) rfl
        · intro Φ hΦ; refine G_and _ _ _ rfl rfl rfl rfl ?_; exact hΦ
        (try simp only [Act.put, List.setIfInBounds_toArray, List.set_cons_succ, List.set_cons_zero])
        apply seq_op (V := .bool ((table_Table_Unique_f u54501) == ((!(slices_ContainsFunc_Op_assayerlaw04_TableUnique_1_f u4.ops)) && (table_Table_Unique_f u1)))) rfl
        · intro Φ hΦ; refine O_bin rfl rfl rfl eqg_bool (r_beq Try.underlying4) ?_; exact hΦ
        (try simp only [Act.put, List.setIfInBounds_toArray, List.set_cons_succ, List.set_cons_zero])
        apply seq_op (V := .bool ((table_Table_Unique_f u54501) == ((!(slices_ContainsFunc_Op_assayerlaw04_TableUnique_1_f u4.ops)) && (table_Table_Unique_f u1)))) rfl
        · intro Φ hΦ; refine O_mv rfl rfl ?_; exact hΦ
        (try simp only [Act.put, List.setIfInBounds_toArray, List.set_cons_succ, List.set_cons_zero])
        refine seq_opg (c := ((table_Table_Unique_f u54501) == ((!(slices_ContainsFunc_Op_assayerlaw04_TableUnique_1_f u4.ops)) && (table_Table_Unique_f u1)))) (V := .pointer (some ⟨br545010, 0, none⟩)) (by first | exact wanted_t rfl rfl rfl | exact wanted_vt rfl rfl rfl) ?_ ?_
        · intro hc Φ hΦ; refine O_mv rfl rfl ?_; exact hΦ
        (try simp only [Act.put, List.setIfInBounds_toArray, List.set_cons_succ, List.set_cons_zero])
        refine seq_opgH (c := ((table_Table_Unique_f u54501) == ((!(slices_ContainsFunc_Op_assayerlaw04_TableUnique_1_f u4.ops)) && (table_Table_Unique_f u1)))) (V := .int .i64 (table_Table_Count_f u54501)) H (by first | exact wanted_t rfl rfl rfl | exact wanted_vt rfl rfl rfl) ?_ ?_
        · intro hc Φ hΦ; (repeat (first | rw [vg_of hc] | rw [vg_of (and_l hc)] | rw [vg_of (and_l (and_l hc))] | rw [vg_of (and_l (and_l (and_l hc)))] | rw [vg_and hc])); refine O_call1 rfl Try.func22 rfl rfl rfl ?_; obtain ⟨sl0, hsl0, hb0, H, bk0, bg0⟩ := lendAt 0 rfl H; simp only [List.eraseIdx_cons_succ, List.eraseIdx_cons_zero, List.cons_append] at H bk0; obtain ⟨sl1, hsl1, hb1, H, bk1, bg1⟩ := lendOsl 0 rfl hsl0 H; simp only [List.eraseIdx_cons_succ, List.eraseIdx_cons_zero, List.cons_append] at H bk1; obtain ⟨sl2, hsl2, hb2, H, bk2, bg2⟩ := lendMapF 0 rfl H; simp only [List.eraseIdx_cons_succ, List.eraseIdx_cons_zero, List.cons_append] at H bk2; obtain ⟨sl3, hsl3, hb3, H, bk3, bg3⟩ := lendMapO 0 rfl ((hsl0.trans hsl1).trans hsl2) H; simp only [List.eraseIdx_cons_succ, List.eraseIdx_cons_zero, List.cons_append] at H bk3; refine (table_Table_Count_w (a0 := u54501) (hC_p0 := ((Cells.ofB hb0).mono ((hsl1.trans hsl2).trans hsl3))) (h_p0_l := (hb1.mono (hsl2.trans hsl3))) (h_p0_kinds := (hb2.mono hsl3)) (h_p0_writers := hb3) (H := H)).mono ?_; rintro e w2 ⟨rfl, H⟩; have H := bk3 H; have H := bk2 H; have H := bk1 H; have H := bk0 H; exact ⟨_, rfl, hΦ _ H⟩
        clear H; intro w1 H
        (try simp only [Act.put, List.setIfInBounds_toArray, List.set_cons_succ, List.set_cons_zero])
        refine seq_opg (c := ((table_Table_Unique_f u54501) == ((!(slices_ContainsFunc_Op_assayerlaw04_TableUnique_1_f u4.ops)) && (table_Table_Unique_f u1)))) (V := .slice (some ⟨be1, oe1, none⟩) (small a0).length cr10) (by first | exact wanted_t rfl rfl rfl | exact wanted_vt rfl rfl rfl) ?_ ?_
        · intro hc Φ hΦ; refine O_mv rfl rfl ?_; exact hΦ
        (try simp only [Act.put, List.setIfInBounds_toArray, List.set_cons_succ, List.set_cons_zero])
        refine seq_opg (c := ((table_Table_Unique_f u54501) == ((!(slices_ContainsFunc_Op_assayerlaw04_TableUnique_1_f u4.ops)) && (table_Table_Unique_f u1)))) (V := .int .i64 ((small a0).length : Int)) (by first | exact wanted_t rfl rfl rfl | exact wanted_vt rfl rfl rfl) ?_ ?_
        · intro hc Φ hΦ; (repeat (first | rw [vg_of hc] | rw [vg_of (and_l hc)] | rw [vg_of (and_l (and_l hc))] | rw [vg_of (and_l (and_l (and_l hc)))] | rw [vg_and hc])); refine O_len rfl Try.underlying22 rfl ?_; exact hΦ
        (try simp only [Act.put, List.setIfInBounds_toArray, List.set_cons_succ, List.set_cons_zero])
        refine seq_opg (c := ((table_Table_Unique_f u54501) == ((!(slices_ContainsFunc_Op_assayerlaw04_TableUnique_1_f u4.ops)) && (table_Table_Unique_f u1)))) (V := .int .i64 (IntKind.i64.wrap (((small a0).length : Int) + 1))) (by first | exact wanted_t rfl rfl rfl | exact wanted_vt rfl rfl rfl) ?_ ?_
        · intro hc Φ hΦ; (repeat (first | rw [vg_of hc] | rw [vg_of (and_l hc)] | rw [vg_of (and_l (and_l hc))] | rw [vg_of (and_l (and_l (and_l hc)))] | rw [vg_and hc])); refine O_bin rfl rfl rfl eqg_int r_add ?_; exact hΦ
        (try simp only [Act.put, List.setIfInBounds_toArray, List.set_cons_succ, List.set_cons_zero])
        refine seq_opg (c := ((table_Table_Unique_f u54501) == ((!(slices_ContainsFunc_Op_assayerlaw04_TableUnique_1_f u4.ops)) && (table_Table_Unique_f u1)))) (V := .bool ((table_Table_Count_f u54501) == (IntKind.i64.wrap (((small a0).length : Int) + 1)))) (by first | exact wanted_t rfl rfl rfl | exact wanted_vt rfl rfl rfl) ?_ ?_
        · intro hc Φ hΦ; (repeat (first | rw [vg_of hc] | rw [vg_of (and_l hc)] | rw [vg_of (and_l (and_l hc))] | rw [vg_of (and_l (and_l (and_l hc)))] | rw [vg_and hc])); refine O_bin rfl rfl rfl eqg_int r_eql ?_; exact hΦ
        (try simp only [Act.put, List.setIfInBounds_toArray, List.set_cons_succ, List.set_cons_zero])
        apply seq_op (V := .bool (((table_Table_Unique_f u54501) == ((!(slices_ContainsFunc_Op_assayerlaw04_TableUnique_1_f u4.ops)) && (table_Table_Unique_f u1))) && ((table_Table_Count_f u54501) == (IntKind.i64.wrap (((small a0).length : Int) + 1))))) rfl
        · intro Φ hΦ; refine G_and _ _ _ rfl rfl rfl rfl ?_; exact hΦ
        (try simp only [Act.put, List.setIfInBounds_toArray, List.set_cons_succ, List.set_cons_zero])
        apply seq_op (V := .bool (((table_Table_Unique_f u54501) == ((!(slices_ContainsFunc_Op_assayerlaw04_TableUnique_1_f u4.ops)) && (table_Table_Unique_f u1))) && ((table_Table_Count_f u54501) == (IntKind.i64.wrap (((small a0).length : Int) + 1))))) rfl
        · intro Φ hΦ; refine O_as rfl rfl ?_; exact hΦ
        (try simp only [Act.put, List.setIfInBounds_toArray, List.set_cons_succ, List.set_cons_zero])
        refine list_end ?_
        refine then_norm ?_
        refine wp_ret ?_
        have hm := Option.some.inj hm
        subst hm
        replace H := H.dropAt 8 rfl; simp only [List.eraseIdx_cons_succ, List.eraseIdx_cons_zero] at H
        replace H := H.dropAt 7 rfl; simp only [List.eraseIdx_cons_succ, List.eraseIdx_cons_zero] at H
        replace H := H.dropAt 6 rfl; simp only [List.eraseIdx_cons_succ, List.eraseIdx_cons_zero] at H
        replace H := H.dropAt 5 rfl; simp only [List.eraseIdx_cons_succ, List.eraseIdx_cons_zero] at H
        replace H := H.dropAt 4 rfl; simp only [List.eraseIdx_cons_succ, List.eraseIdx_cons_zero] at H
        replace H := H.dropAt 3 rfl; simp only [List.eraseIdx_cons_succ, List.eraseIdx_cons_zero] at H
        replace H := H.dropAt 2 rfl; simp only [List.eraseIdx_cons_succ, List.eraseIdx_cons_zero] at H
        replace H := H.dropAt 1 rfl; simp only [List.eraseIdx_cons_succ, List.eraseIdx_cons_zero] at H
        replace H := H.dropAt 0 rfl; simp only [List.eraseIdx_cons_succ, List.eraseIdx_cons_zero] at H
        replace H := H.forget hS
        exact ret1 rfl (rv_tmp rfl) rfl ⟨rfl, H⟩
theorem eqnil_kWr (w : World) (a : Option Addr) (n c : Nat) : (binOp .eql 51 (.slice a n c) (.slice none 0 0)).run Try.prog w = .ok (.bool a.isNone) w := Lib.run_eql_slice_nil w _ _ a n c 0 0 Try.underlying51
attribute [local go_sem] eqnil_kWr
set_option maxHeartbeats 400000 in
theorem clone_kWr_w {E : World} {s : SH} {L : List HP} {w : World} {a0 : List Wr} {A_p0 : Option Addr} {c_p0 : Nat} (h_p0 : kWr.Sl s (.slice A_p0 a0.length c_p0) a0) (H : Holds E s L w) :
    Calls Try.prog 68 #[.slice A_p0 a0.length c_p0] w fun e w' => ∃ A c n, e = .returned (.slice A n c) ∧ Holds E s ((kWr.sh s).Osl (.slice A n c) a0 :: L) w' := by
  have hv0 := h_p0
  obtain ⟨A, cap, e, h1, h2, h3⟩ := h_p0
  cases e
  cases A_p0 with
  | none =>
    have : a0 = [] := Classical.byContradiction fun hx => by obtain ⟨b, off, cur, e, fr, k, _⟩ := h3 hx; cases k
    subst this
    go_enter Try.func68, Try.ntmps68
    go_wp2
    go_ret
    exact ⟨none, 0, 0, rfl, Kin.Osl.nil H⟩
  | some p =>
    go_enter Try.func68, Try.ntmps68
    go_wp2_with (first | ((with_reducible refine OpG.list rfl ?_); refine G_slice0 (d := kWr.sh s) rfl Try.underlying51 Try.sizeOf41 H ?_; intro v1 w1 H1) | ((with_reducible refine OpG.list rfl ?_); refine G_appendS kWr_at _ _ rfl H1 hv0 rfl rfl (by simpa using h2) ?_; intro v2 w2 H2; simp only [List.nil_append] at H2))
    obtain ⟨A2, c2, rfl, -⟩ := H2.len
    go_ret
    exact ⟨A2, c2, _, rfl, H2⟩
def table_Table_Writers_f (a0 : Tbl) (a1 : ByteArray) (a2 : Int) : (List Wr) := ((a0.writers (⟨a1, a2⟩ : Place)).getD [])

set_option maxHeartbeats 4000000 in
theorem table_Table_Writers_w {E : World} {s : SH} {L : List HP} {w : World} {a0 : Tbl} {a1 : ByteArray} {a2 : Int} {A_p0_l : Option Addr} {c_p0_l : Nat} (h_p0_l : kT.Sl s (.slice A_p0_l a0.l.length c_p0_l) a0.l) {r_p0_kinds : Nat} (h_p0_kinds : MapKF kcS vcI s r_p0_kinds a0.kinds) {r_p0_writers : Nat} (h_p0_writers : MapKO kcP kWr s r_p0_writers a0.writers) {b_p0 o_p0 : Nat} (hC_p0 : Cells s ⟨b_p0, o_p0, none⟩ [.slice A_p0_l a0.l.length c_p0_l, .map (some r_p0_kinds), .map (some r_p0_writers), .bool a0.made]) (hz_p1 : a1.size ≤ 140737488351232) (hr_p2 : Kin.inI64 a2) (H : Holds E s (L) w) :
    Calls Try.prog 29 #[.pointer (some ⟨b_p0, o_p0, none⟩), .string a1, .int .i64 a2] w fun e w' => ∃ A0 c0 n0, e = .returned (.slice A0 n0 c0) ∧ Holds E s ((kWr.sh s).Osl (.slice A0 n0 c0) (table_Table_Writers_f a0 a1 a2) :: L) w' := by
  obtain ⟨R, hm⟩ : ∃ R, table_Table_Writers_f a0 a1 a2 = R := ⟨_, rfl⟩
  (try rw [hm])
  unfold table_Table_Writers_f at hm
  go_enter Try.func29, Try.ntmps29
  refine wp_seq ?_
  refine wp_region_lit ?_
  apply seq_op (V := .slice none 0 0) rfl
  · intro Φ hΦ; refine O_as rfl rfl ?_; exact hΦ
  (try simp only [Act.put, List.setIfInBounds_toArray, List.set_cons_succ, List.set_cons_zero])
  refine list_end ?_
  refine then_norm ?_
  refine wp_seq ?_
  refine wp_seq ?_
  refine wp_region_lit ?_
  apply seq_op (V := .pointer (some ⟨b_p0, o_p0, none⟩)) rfl
  · intro Φ hΦ; refine O_mv rfl rfl ?_; exact hΦ
  (try simp only [Act.put, List.setIfInBounds_toArray, List.set_cons_succ, List.set_cons_zero])
  apply seq_op (V := .bool false) rfl
  · intro Φ hΦ; refine O_bin rfl rfl rfl eqg_ptr (r_pnil Try.underlying24) ?_; exact hΦ
  (try simp only [Act.put, List.setIfInBounds_toArray, List.set_cons_succ, List.set_cons_zero])
  refine list_end ?_
  refine then_norm ?_
  refine wp_cond_false rfl ?_
  refine wp_skip ?_
  refine then_norm ?_
  refine wp_seq ?_
  obtain ⟨Aq1, cq1, hsq1, hlkq1⟩ := KO_get mk_P 96 Try.underlying96 (k := (⟨a1, a2⟩ : Place)) ⟨(Nat.le_trans hz_p1 (by decide)), hr_p2⟩ h_p0_writers
  refine wp_region_lit ?_
  apply seq_op (V := .pointer (some ⟨b_p0, o_p0, none⟩)) rfl
  · intro Φ hΦ; refine O_mv rfl rfl ?_; exact hΦ
  (try simp only [Act.put, List.setIfInBounds_toArray, List.set_cons_succ, List.set_cons_zero])
  apply seq_op (V := .pointer (some ⟨b_p0, o_p0, none⟩)) rfl
  · intro Φ hΦ; refine O_nil rfl rfl ?_; exact hΦ
  (try simp only [Act.put, List.setIfInBounds_toArray, List.set_cons_succ, List.set_cons_zero])
  apply seq_op (V := .pointer (some ⟨b_p0, o_p0 + 2, none⟩)) rfl
  · intro Φ hΦ; refine O_fld rfl Try.underlying98 rfl (Try.sizeOf96 _) rfl ?_; exact hΦ
  (try simp only [Act.put, List.setIfInBounds_toArray, List.set_cons_succ, List.set_cons_zero])
  apply seq_op (V := .map (some r_p0_writers)) rfl
  · intro Φ hΦ; refine G_s1 _ _ rfl (Try.isAgg96 _) rfl H hC_p0 2 rfl rfl ?_; exact hΦ
  (try simp only [Act.put, List.setIfInBounds_toArray, List.set_cons_succ, List.set_cons_zero])
  apply seq_op (V := .string a1) rfl
  · intro Φ hΦ; refine O_mv rfl rfl ?_; exact hΦ
  (try simp only [Act.put, List.setIfInBounds_toArray, List.set_cons_succ, List.set_cons_zero])
  apply seq_op (V := .int .i64 a2) rfl
  · intro Φ hΦ; refine O_mv rfl rfl ?_; exact hΦ
  (try simp only [Act.put, List.setIfInBounds_toArray, List.set_cons_succ, List.set_cons_zero])
  apply seq_op (V := .agg #[.string a1, .int .i64 a2]) rfl
  · intro Φ hΦ; refine O_bld (cs := [.string a1, .int .i64 a2]) rfl (by kernel_rfl) ?_; exact hΦ
  (try simp only [Act.put, List.setIfInBounds_toArray, List.set_cons_succ, List.set_cons_zero])
  apply seq_op (V := .slice Aq1 ((a0.writers (⟨a1, a2⟩ : Place)).getD []).length cq1) rfl
  · intro Φ hΦ; refine O_lkr rfl rfl rfl (hlkq1 (Sub.refl _) H (Try.zeroValue51 _)) ?_; exact hΦ
  (try simp only [Act.put, List.setIfInBounds_toArray, List.set_cons_succ, List.set_cons_zero])
  refine seq_call rfl (fun Φ hΦ => by refine O_call1 rfl Try.func68 rfl rfl rfl hΦ) (clone_kWr_w (a0 := (a0.writers (⟨a1, a2⟩ : Place)).getD []) (h_p0 := hsq1) (H := H)) ?_
  clear H
  rintro e w1 ⟨Ar10, cr10, nr10, rfl, H⟩; refine ⟨_, rfl, ?_⟩
  obtain rfl := osl_len 0 H rfl
  (try simp only [Act.put, List.setIfInBounds_toArray, List.set_cons_succ, List.set_cons_zero])
  apply seq_op (V := .slice Ar10 ((a0.writers (⟨a1, a2⟩ : Place)).getD []).length cr10) rfl
  · intro Φ hΦ; refine O_as rfl rfl ?_; exact hΦ
  (try simp only [Act.put, List.setIfInBounds_toArray, List.set_cons_succ, List.set_cons_zero])
  refine list_end ?_
  refine then_norm ?_
  refine wp_ret ?_
  subst hm
  exact ret1 rfl (rv_tmp rfl) rfl ⟨Ar10, cr10, (((a0.writers (⟨a1, a2⟩ : Place)).getD []).length), rfl, H⟩
def slices_Equal_Write_l4 (a1 : List Wr) : Nat → List Wr → Option ((Bool ⊕ Unit))
  | k4, []  => some (.inr ())
  | k4, x4 :: r4 => (rdI a1 (k4 : Int)).bind fun u1 => if (!(kWr_eqb x4 u1)) = true then (some (.inl false)) else (slices_Equal_Write_l4 a1 (k4 + 1) r4)

def slices_Equal_Write_f (a0 : List Wr) (a1 : List Wr) : Option Bool := if ((a0.length : Int) != (a1.length : Int)) = true then (some false) else ((slices_Equal_Write_l4 a1 0 a0).bind fun | .inl z4_r => (some z4_r) | .inr () => (some true))

set_option maxHeartbeats 4000000 in
theorem slices_Equal_Write_w {E : World} {s : SH} {L : List HP} {w : World} {a0 : List Wr} {a1 : List Wr} {A_p0 : Option Addr} {c_p0 : Nat} (h_p0 : kWr.Sl s (.slice A_p0 a0.length c_p0) a0) {A_p1 : Option Addr} {c_p1 : Nat} (h_p1 : kWr.Sl s (.slice A_p1 a1.length c_p1) a1) {R : Bool} (hm : slices_Equal_Write_f a0 a1 = some R) (H : Holds E s (L) w) :
    Calls Try.prog 28 #[.slice A_p0 a0.length c_p0, .slice A_p1 a1.length c_p1] w fun e w' => e = .returned (.bool R) ∧ Holds E s (L) w' := by
  unfold slices_Equal_Write_f at hm
  go_enter Try.func28, Try.ntmps28
  refine wp_seq ?_
  refine wp_region_lit ?_
  apply seq_op (V := .bool false) rfl
  · intro Φ hΦ; refine O_as rfl rfl ?_; exact hΦ
  (try simp only [Act.put, List.setIfInBounds_toArray, List.set_cons_succ, List.set_cons_zero])
  refine list_end ?_
  refine then_norm ?_
  refine wp_seq ?_
  refine wp_seq ?_
  refine wp_region_lit ?_
  apply seq_op (V := .slice A_p0 a0.length c_p0) rfl
  · intro Φ hΦ; refine O_mv rfl rfl ?_; exact hΦ
  (try simp only [Act.put, List.setIfInBounds_toArray, List.set_cons_succ, List.set_cons_zero])
  apply seq_op (V := .int .i64 (a0.length : Int)) rfl
  · intro Φ hΦ; refine O_len rfl Try.underlying51 rfl ?_; exact hΦ
  (try simp only [Act.put, List.setIfInBounds_toArray, List.set_cons_succ, List.set_cons_zero])
  apply seq_op (V := .slice A_p1 a1.length c_p1) rfl
  · intro Φ hΦ; refine O_mv rfl rfl ?_; exact hΦ
  (try simp only [Act.put, List.setIfInBounds_toArray, List.set_cons_succ, List.set_cons_zero])
  apply seq_op (V := .int .i64 (a1.length : Int)) rfl
  · intro Φ hΦ; refine O_len rfl Try.underlying51 rfl ?_; exact hΦ
  (try simp only [Act.put, List.setIfInBounds_toArray, List.set_cons_succ, List.set_cons_zero])
  apply seq_op (V := .bool ((a0.length : Int) != (a1.length : Int))) rfl
  · intro Φ hΦ; refine O_bin rfl rfl rfl eqg_int r_neq ?_; exact hΦ
  (try simp only [Act.put, List.setIfInBounds_toArray, List.set_cons_succ, List.set_cons_zero])
  refine list_end ?_
  refine then_norm ?_
  refine wp_cond_split rfl (fun hc => ?_) (fun hc => ?_)
  · have hc1 := hc
    clear hc
    replace hm := ifT hc1 hm
    refine wp_seq ?_
    refine wp_region_lit ?_
    apply seq_op (V := .bool false) rfl
    · intro Φ hΦ; refine O_as rfl rfl ?_; exact hΦ
    (try simp only [Act.put, List.setIfInBounds_toArray, List.set_cons_succ, List.set_cons_zero])
    refine list_end ?_
    refine then_norm ?_
    refine wp_ret ?_
    refine then_ret ?_
    have hm := Option.some.inj hm
    subst hm
    exact ret1 rfl (rv_tmp rfl) rfl ⟨rfl, H⟩
  · have hc1 := hc
    clear hc
    replace hm := ifF hc1 hm
    refine wp_skip ?_
    refine then_norm ?_
    refine wp_seq ?_
    refine wp_seq ?_
    refine wp_region_lit ?_
    apply seq_op (V := .slice A_p0 a0.length c_p0) rfl
    · intro Φ hΦ; refine O_mv rfl rfl ?_; exact hΦ
    (try simp only [Act.put, List.setIfInBounds_toArray, List.set_cons_succ, List.set_cons_zero])
    apply seq_op (V := .int .i64 (a0.length : Int)) rfl
    · intro Φ hΦ; refine O_len rfl Try.underlying51 rfl ?_; exact hΦ
    (try simp only [Act.put, List.setIfInBounds_toArray, List.set_cons_succ, List.set_cons_zero])
    apply seq_op (V := .int .i64 0) rfl
    · intro Φ hΦ; refine O_mv rfl rfl ?_; exact hΦ
    (try simp only [Act.put, List.setIfInBounds_toArray, List.set_cons_succ, List.set_cons_zero])
    refine list_end ?_
    refine then_norm ?_
    refine wp_block ?_
    obtain ⟨R4, hq4, hm⟩ := bs hm
    have hn4 := Nat.le_trans (len_le (d := kWr) h_p0 (by decide)) (by decide : (140737488355328 : Nat) ≤ 9223372036854775807)
    refine wp_loopF [none, none, none, none, some 4, some 5, none, none, none, none, none, none, none, some 13, some 14, some 15, some 16, some 17, some 18, some 19, some 20, some 21, some 22, some 23, some 24, some 25] rfl (by simp) (fun f w => ∃ (k4 : Nat) (r4 : List Wr), a0.drop k4 = r4 ∧ f 13 = .int .i64 (k4 : Int) ∧ slices_Equal_Write_l4 a1 k4 r4 = some R4 ∧ Holds E s (L) w) (fun f w => a0.length - (intOf (f 13)).toNat) ?_ ?_
    · exact ⟨0, a0, rfl, rfl, hq4, H⟩
    · clear H
      intro f w hI
      obtain ⟨k4, r4, hd4, hf13, hq4', H⟩ := hI
      clear hq4; have hq4 := hq4'; clear hq4'
      simp only [ovm, mixM]
      simp only [hf13]; clear hf13
      refine wp_seq ?_
      refine wp_region_lit ?_
      apply seq_op (V := .bool (decide ((k4 : Int) < (a0.length : Int)))) rfl
      · intro Φ hΦ; refine O_bin rfl rfl rfl eqg_int r_lss ?_; exact hΦ
      (try simp only [Act.put, List.setIfInBounds_toArray, List.set_cons_succ, List.set_cons_zero])
      refine list_end ?_
      refine then_norm ?_
      refine wp_seq ?_
      refine wp_cond_split rfl (fun hc => ?_) (fun hc => ?_)
      · have hc2 := hc
        clear hc
        obtain ⟨x4, r4', rfl, hd4', hd4'', hl4⟩ := rng_t hd4 hc2
        rw [slices_Equal_Write_l4] at hq4
        refine wp_skip ?_
        refine then_norm ?_
        refine wp_seq ?_
        refine wp_block ?_
        refine wp_seq ?_
        refine wp_region_lit ?_
        apply seq_op (V := .int .i64 (k4 : Int)) rfl
        · intro Φ hΦ; refine O_mv rfl rfl ?_; exact hΦ
        (try simp only [Act.put, List.setIfInBounds_toArray, List.set_cons_succ, List.set_cons_zero])
        apply seq_op (V := .int .i64 (k4 : Int)) rfl
        · intro Φ hΦ; refine O_as rfl rfl ?_; exact hΦ
        (try simp only [Act.put, List.setIfInBounds_toArray, List.set_cons_succ, List.set_cons_zero])
        refine list_end ?_
        refine then_norm ?_
        refine wp_seq ?_
        obtain ⟨be1, oe1, rfl, hCe1, h0e1, h1e1⟩ := kWr_el h_p0 hd4'
        obtain ⟨u1, gx1, hq4⟩ := bs hq4
        obtain ⟨kk1, gk1, gl1, gd1⟩ := rdI_some gx1
        obtain ⟨be2, oe2, rfl, hCe2, h0e2, h1e2⟩ := kWr_el h_p1 gd1
        refine wp_draw_obO (k := 9) (sz := 26) (List.replicate 9 9) (fun _ => []) mixed (by simp) rfl (by kernel_rfl) (by kernel_rfl) (by kernel_rfl) H (by simp only [List.take_succ_cons, List.take_zero]; exact rfl) (by simp only [List.drop_succ_cons, List.drop_zero]; exact rfl)
          (fun y => by simp only [ov, Act.put, List.setIfInBounds_toArray, List.set_cons_succ, List.set_cons_zero, Nat.zero_add, Nat.reduceAdd]; exact rfl) ?_
        apply ObO.valw (V := .slice (some ⟨be1, oe1, none⟩) a0.length c_p0)
        · intro x; rfl
        · intro s' w' y Φ R hs H hG hΦ; refine wantG rfl ?_; refine O_mv rfl rfl ?_; exact hΦ _ _ (Sub.refl _) H
        apply ObO.valw (V := .int .i64 (k4 : Int))
        · intro x; rfl
        · intro s' w' y Φ R hs H hG hΦ; refine wantG rfl ?_; refine O_mv rfl rfl ?_; exact hΦ _ _ (Sub.refl _) H
        apply ObO.valw (V := .pointer (some ⟨be1, oe1 + k4 * 2, none⟩))
        · intro x; rfl
        · intro s' w' y Φ R hs H hG hΦ; simp only [List.nil_append, List.cons_append] at hG; have e0 : y 0 = _ := dh_get hG 0 rfl (by kernel_rfl); have e1 : y 1 = _ := dh_get hG 1 rfl (by kernel_rfl); simp only [e0, e1]; refine wantG rfl ?_; refine O_ix rfl Try.underlying51 (Try.sizeOf41 _) rfl rfl rfl hl4 ?_; exact hΦ _ _ (Sub.refl _) H
        apply ObO.valw (V := .agg #[.int .i64 x4.txn, .int .i64 x4.op])
        · intro x; rfl
        · intro s' w' y Φ R hs H hG hΦ; simp only [List.nil_append, List.cons_append] at hG; have e2 : y 2 = _ := dh_get hG 2 rfl (by kernel_rfl); simp only [e2]; refine wantG rfl ?_; refine G_sN _ _ rfl (Try.isAgg41 _) rfl H (hCe1.mono hs) (Try.sizeOf41 _) ?_; exact hΦ _ _ (Sub.refl _) H
        apply ObO.valw (V := .slice (some ⟨be2, oe2, none⟩) a1.length c_p1)
        · intro x; rfl
        · intro s' w' y Φ R hs H hG hΦ; refine wantG rfl ?_; refine O_mv rfl rfl ?_; exact hΦ _ _ (Sub.refl _) H
        apply ObO.valw (V := .int .i64 (k4 : Int))
        · intro x; rfl
        · intro s' w' y Φ R hs H hG hΦ; refine wantG rfl ?_; refine O_mv rfl rfl ?_; exact hΦ _ _ (Sub.refl _) H
        apply ObO.valw (V := .pointer (some ⟨be2, oe2 + kk1 * 2, none⟩))
        · intro x; rfl
        · intro s' w' y Φ R hs H hG hΦ; simp only [List.nil_append, List.cons_append] at hG; have e4 : y 4 = _ := dh_get hG 4 rfl (by kernel_rfl); have e5 : y 5 = _ := dh_get hG 5 rfl (by kernel_rfl); simp only [e4, e5]; refine wantG rfl ?_; refine O_ix rfl Try.underlying51 (Try.sizeOf41 _) rfl rfl gk1 gl1 ?_; exact hΦ _ _ (Sub.refl _) H
        apply ObO.valw (V := .agg #[.int .i64 u1.txn, .int .i64 u1.op])
        · intro x; rfl
        · intro s' w' y Φ R hs H hG hΦ; simp only [List.nil_append, List.cons_append] at hG; have e6 : y 6 = _ := dh_get hG 6 rfl (by kernel_rfl); simp only [e6]; refine wantG rfl ?_; refine G_sN _ _ rfl (Try.isAgg41 _) rfl H (hCe2.mono hs) (Try.sizeOf41 _) ?_; exact hΦ _ _ (Sub.refl _) H
        apply ObO.valw (V := .bool (!(kWr_eqb x4 u1)))
        · intro x; rfl
        · intro s' w' y Φ R hs H hG hΦ; simp only [List.nil_append, List.cons_append] at hG; have e3 : y 3 = _ := dh_get hG 3 rfl (by kernel_rfl); have e7 : y 7 = _ := dh_get hG 7 rfl (by kernel_rfl); simp only [e3, e7]; refine wantG rfl ?_; refine O_bin rfl rfl rfl (kWr_eg _) (kWr_neq _ x4 u1) ?_; exact hΦ _ _ (Sub.refl _) H
        clear H
        intro s3 w3 yy hs3 H hG
        replace H := (show Holds _ _ ([] ++ _) _ from H); rw [List.nil_append] at H
        simp only [List.nil_append, List.cons_append] at hG
        have e0 : yy 0 = _ := gh_get hG 0 rfl
        have e1 : yy 1 = _ := gh_get hG 1 rfl
        have e2 : yy 2 = _ := gh_get hG 2 rfl
        have e3 : yy 3 = _ := gh_get hG 3 rfl
        have e4 : yy 4 = _ := gh_get hG 4 rfl
        have e5 : yy 5 = _ := gh_get hG 5 rfl
        have e6 : yy 6 = _ := gh_get hG 6 rfl
        have e7 : yy 7 = _ := gh_get hG 7 rfl
        have e8 : yy 8 = _ := gh_get hG 8 rfl
        simp only [e0, e1, e2, e3, e4, e5, e6, e7, e8]
        clear hG e0 e1 e2 e3 e4 e5 e6 e7 e8
        replace H := H.forget hs3; clear hs3
        refine list_end ?_
        refine then_norm ?_
        refine wp_cond_split rfl (fun hc => ?_) (fun hc => ?_)
        · have hc3 := hc
          clear hc
          replace hq4 := ifT hc3 hq4
          refine wp_seq ?_
          refine wp_region_lit ?_
          apply seq_op (V := .bool false) rfl
          · intro Φ hΦ; refine O_as rfl rfl ?_; exact hΦ
          (try simp only [Act.put, List.setIfInBounds_toArray, List.set_cons_succ, List.set_cons_zero])
          refine list_end ?_
          refine then_norm ?_
          refine wp_ret ?_
          refine block_ret ?_
          refine then_ret ?_
          refine then_ret ?_
          refine block_ret ?_
          refine then_ret ?_
          have hq4 := Option.some.inj hq4
          subst hq4
          (try dsimp only at hm)
          have hm := Option.some.inj hm
          subst hm
          exact ret1 rfl (rv_tmp rfl) rfl ⟨rfl, H⟩
        · have hc3 := hc
          clear hc
          replace hq4 := ifF hc3 hq4
          refine wp_skip ?_
          refine block_norm ?_
          refine then_norm ?_
          refine wp_region_lit ?_
          apply seq_op (V := .int .i64 (IntKind.i64.wrap ((k4 : Int) + 1))) rfl
          · intro Φ hΦ; refine O_bin rfl rfl rfl eqg_int r_add ?_; exact hΦ
          (try simp only [Act.put, List.setIfInBounds_toArray, List.set_cons_succ, List.set_cons_zero])
          apply seq_op (V := .int .i64 (IntKind.i64.wrap ((k4 : Int) + 1))) rfl
          · intro Φ hΦ; refine O_mv rfl rfl ?_; exact hΦ
          (try simp only [Act.put, List.setIfInBounds_toArray, List.set_cons_succ, List.set_cons_zero])
          refine list_end ?_
          refine then_norm ?_
          refine ⟨⟨⟨rfl, rfl, rfl, rfl, rfl, rfl, rfl, rfl, rfl, rfl, rfl, rfl⟩, rfl⟩, ⟨k4 + 1, _, hd4'', wrap_succ hl4 hn4, hq4, H⟩, ?_⟩
          exact meas_succ hl4 hn4
      · have hc2 := hc
        clear hc
        obtain rfl := rng_f hd4 hc2
        rw [slices_Equal_Write_l4] at hq4
        refine wp_exit ?_
        refine then_exit ?_
        refine then_exit ?_
        have hq4 := Option.some.inj hq4
        subst hq4
        (try dsimp only at hm)
        refine block_exit ?_
        refine then_norm ?_
        refine wp_seq ?_
        refine wp_region_lit ?_
        apply seq_op (V := .bool true) rfl
        · intro Φ hΦ; refine O_as rfl rfl ?_; exact hΦ
        (try simp only [Act.put, List.setIfInBounds_toArray, List.set_cons_succ, List.set_cons_zero])
        refine list_end ?_
        refine then_norm ?_
        refine wp_ret ?_
        have hm := Option.some.inj hm
        subst hm
        exact ret1 rfl (rv_tmp rfl) rfl ⟨rfl, H⟩
def slices_Index_Write_l2 (a1 : Wr) : Nat → List Wr → (Int ⊕ Unit)
  | k2, []  => .inr ()
  | k2, x2 :: r2 => if (kWr_eqb a1 x2) = true then (.inl (k2 : Int)) else (slices_Index_Write_l2 a1 (k2 + 1) r2)

def slices_Index_Write_f (a0 : List Wr) (a1 : Wr) : Int := letF (slices_Index_Write_l2 a1 0 a0) fun | .inl z2_r => z2_r | .inr () => (-1)

set_option maxHeartbeats 4000000 in
theorem slices_Index_Write_w {E : World} {s : SH} {L : List HP} {w : World} {a0 : List Wr} {a1 : Wr} {A_p0 : Option Addr} {c_p0 : Nat} (h_p0 : kWr.Sl s (.slice A_p0 a0.length c_p0) a0) (H : Holds E s (L) w) :
    Calls Try.prog 69 #[.slice A_p0 a0.length c_p0, .agg #[.int .i64 a1.txn, .int .i64 a1.op]] w fun e w' => e = .returned (.int .i64 (slices_Index_Write_f a0 a1)) ∧ Holds E s (L) w' := by
  obtain ⟨R, hm⟩ : ∃ R, slices_Index_Write_f a0 a1 = R := ⟨_, rfl⟩
  (try rw [hm])
  unfold slices_Index_Write_f at hm
  go_enter Try.func69, Try.ntmps69
  refine wp_seq ?_
  refine wp_region_lit ?_
  refine OpG.list rfl ?_; refine B_x 41 _ rfl (v := .agg #[.int .i64 a1.txn, .int .i64 a1.op]) rfl H ?_; clear H; intro b3 w1 H; (try simp only [Value.cells] at H)
  (try simp only [Act.put, List.setIfInBounds_toArray, List.set_cons_succ, List.set_cons_zero])
  apply seq_op (V := .int .i64 0) rfl
  · intro Φ hΦ; refine O_as rfl rfl ?_; exact hΦ
  (try simp only [Act.put, List.setIfInBounds_toArray, List.set_cons_succ, List.set_cons_zero])
  refine list_end ?_
  refine then_norm ?_
  refine wp_seq ?_
  refine wp_seq ?_
  refine wp_region_lit ?_
  apply seq_op (V := .slice A_p0 a0.length c_p0) rfl
  · intro Φ hΦ; refine O_mv rfl rfl ?_; exact hΦ
  (try simp only [Act.put, List.setIfInBounds_toArray, List.set_cons_succ, List.set_cons_zero])
  apply seq_op (V := .int .i64 (a0.length : Int)) rfl
  · intro Φ hΦ; refine O_len rfl Try.underlying51 rfl ?_; exact hΦ
  (try simp only [Act.put, List.setIfInBounds_toArray, List.set_cons_succ, List.set_cons_zero])
  apply seq_op (V := .int .i64 0) rfl
  · intro Φ hΦ; refine O_mv rfl rfl ?_; exact hΦ
  (try simp only [Act.put, List.setIfInBounds_toArray, List.set_cons_succ, List.set_cons_zero])
  refine list_end ?_
  refine then_norm ?_
  refine wp_block ?_
  obtain ⟨R2, hq2, hm⟩ := lfe hm
  have hn2 := Nat.le_trans (len_le (d := kWr) h_p0 (by decide)) (by decide : (140737488355328 : Nat) ≤ 9223372036854775807)
  refine wp_loopF [none, none, none, none, some 4, some 5, none, none, some 8, some 9, some 10, some 11, some 12, some 13, some 14, some 15, some 16, some 17, some 18] rfl (by simp) (fun f w => ∃ (k2 : Nat) (r2 : List Wr), a0.drop k2 = r2 ∧ f 8 = .int .i64 (k2 : Int) ∧ slices_Index_Write_l2 a1 k2 r2 = R2 ∧ Holds E s (pt b3 (.cells #[.int .i64 a1.txn, .int .i64 a1.op] 41 (0, 0)) :: L) w) (fun f w => a0.length - (intOf (f 8)).toNat) ?_ ?_
  · exact ⟨0, a0, rfl, rfl, hq2, H⟩
  · clear H
    intro f w hI
    obtain ⟨k2, r2, hd2, hf8, hq2', H⟩ := hI
    clear hq2; have hq2 := hq2'; clear hq2'
    simp only [ovm, mixM]
    simp only [hf8]; clear hf8
    refine wp_seq ?_
    refine wp_region_lit ?_
    apply seq_op (V := .bool (decide ((k2 : Int) < (a0.length : Int)))) rfl
    · intro Φ hΦ; refine O_bin rfl rfl rfl eqg_int r_lss ?_; exact hΦ
    (try simp only [Act.put, List.setIfInBounds_toArray, List.set_cons_succ, List.set_cons_zero])
    refine list_end ?_
    refine then_norm ?_
    refine wp_seq ?_
    refine wp_cond_split rfl (fun hc => ?_) (fun hc => ?_)
    · have hc1 := hc
      clear hc
      obtain ⟨x2, r2', rfl, hd2', hd2'', hl2⟩ := rng_t hd2 hc1
      rw [slices_Index_Write_l2] at hq2
      refine wp_skip ?_
      refine then_norm ?_
      refine wp_seq ?_
      refine wp_block ?_
      refine wp_seq ?_
      refine wp_region_lit ?_
      apply seq_op (V := .int .i64 (k2 : Int)) rfl
      · intro Φ hΦ; refine O_mv rfl rfl ?_; exact hΦ
      (try simp only [Act.put, List.setIfInBounds_toArray, List.set_cons_succ, List.set_cons_zero])
      apply seq_op (V := .int .i64 (k2 : Int)) rfl
      · intro Φ hΦ; refine O_as rfl rfl ?_; exact hΦ
      (try simp only [Act.put, List.setIfInBounds_toArray, List.set_cons_succ, List.set_cons_zero])
      refine list_end ?_
      refine then_norm ?_
      refine wp_seq ?_
      obtain ⟨be1, oe1, rfl, hCe1, h0e1, h1e1⟩ := kWr_el h_p0 hd2'
      refine wp_draw_obO (k := 6) (sz := 19) (List.replicate 6 6) (fun _ => []) mixed (by simp) rfl (by kernel_rfl) (by kernel_rfl) (by kernel_rfl) H (by simp only [List.take_succ_cons, List.take_zero]; exact rfl) (by simp only [List.drop_succ_cons, List.drop_zero]; exact rfl)
        (fun y => by simp only [ov, Act.put, List.setIfInBounds_toArray, List.set_cons_succ, List.set_cons_zero, Nat.zero_add, Nat.reduceAdd]; exact rfl) ?_
      apply ObO.valw (V := .agg #[.int .i64 a1.txn, .int .i64 a1.op])
      · intro x; rfl
      · intro s' w' y Φ R hs H hG hΦ; refine wantG rfl ?_; refine G_pNi 0 _ _ rfl (Try.isAgg41 _) rfl H rfl (Try.sizeOf41 _) ?_; exact hΦ _ _ (Sub.refl _) H
      apply ObO.valw (V := .slice (some ⟨be1, oe1, none⟩) a0.length c_p0)
      · intro x; rfl
      · intro s' w' y Φ R hs H hG hΦ; refine wantG rfl ?_; refine O_mv rfl rfl ?_; exact hΦ _ _ (Sub.refl _) H
      apply ObO.valw (V := .int .i64 (k2 : Int))
      · intro x; rfl
      · intro s' w' y Φ R hs H hG hΦ; refine wantG rfl ?_; refine O_mv rfl rfl ?_; exact hΦ _ _ (Sub.refl _) H
      apply ObO.valw (V := .pointer (some ⟨be1, oe1 + k2 * 2, none⟩))
      · intro x; rfl
      · intro s' w' y Φ R hs H hG hΦ; simp only [List.nil_append, List.cons_append] at hG; have e1 : y 1 = _ := dh_get hG 1 rfl (by kernel_rfl); have e2 : y 2 = _ := dh_get hG 2 rfl (by kernel_rfl); simp only [e1, e2]; refine wantG rfl ?_; refine O_ix rfl Try.underlying51 (Try.sizeOf41 _) rfl rfl rfl hl2 ?_; exact hΦ _ _ (Sub.refl _) H
      apply ObO.valw (V := .agg #[.int .i64 x2.txn, .int .i64 x2.op])
      · intro x; rfl
      · intro s' w' y Φ R hs H hG hΦ; simp only [List.nil_append, List.cons_append] at hG; have e3 : y 3 = _ := dh_get hG 3 rfl (by kernel_rfl); simp only [e3]; refine wantG rfl ?_; refine G_sN _ _ rfl (Try.isAgg41 _) rfl H (hCe1.mono hs) (Try.sizeOf41 _) ?_; exact hΦ _ _ (Sub.refl _) H
      apply ObO.valw (V := .bool (kWr_eqb a1 x2))
      · intro x; rfl
      · intro s' w' y Φ R hs H hG hΦ; simp only [List.nil_append, List.cons_append] at hG; have e0 : y 0 = _ := dh_get hG 0 rfl (by kernel_rfl); have e4 : y 4 = _ := dh_get hG 4 rfl (by kernel_rfl); simp only [e0, e4]; refine wantG rfl ?_; refine O_bin rfl rfl rfl (kWr_eg _) (kWr_eql _ a1 x2) ?_; exact hΦ _ _ (Sub.refl _) H
      clear H
      intro s3 w3 yy hs3 H hG
      replace H := (show Holds _ _ ([] ++ _) _ from H); rw [List.nil_append] at H
      simp only [List.nil_append, List.cons_append] at hG
      have e0 : yy 0 = _ := gh_get hG 0 rfl
      have e1 : yy 1 = _ := gh_get hG 1 rfl
      have e2 : yy 2 = _ := gh_get hG 2 rfl
      have e3 : yy 3 = _ := gh_get hG 3 rfl
      have e4 : yy 4 = _ := gh_get hG 4 rfl
      have e5 : yy 5 = _ := gh_get hG 5 rfl
      simp only [e0, e1, e2, e3, e4, e5]
      clear hG e0 e1 e2 e3 e4 e5
      replace H := H.forget hs3; clear hs3
      refine list_end ?_
      refine then_norm ?_
      refine wp_cond_split rfl (fun hc => ?_) (fun hc => ?_)
      · have hc2 := hc
        clear hc
        replace hq2 := ifT hc2 hq2
        refine wp_seq ?_
        refine wp_region_lit ?_
        apply seq_op (V := .int .i64 (k2 : Int)) rfl
        · intro Φ hΦ; refine O_mv rfl rfl ?_; exact hΦ
        (try simp only [Act.put, List.setIfInBounds_toArray, List.set_cons_succ, List.set_cons_zero])
        apply seq_op (V := .int .i64 (k2 : Int)) rfl
        · intro Φ hΦ; refine O_as rfl rfl ?_; exact hΦ
        (try simp only [Act.put, List.setIfInBounds_toArray, List.set_cons_succ, List.set_cons_zero])
        refine list_end ?_
        refine then_norm ?_
        refine wp_ret ?_
        refine block_ret ?_
        refine then_ret ?_
        refine then_ret ?_
        refine block_ret ?_
        refine then_ret ?_
        subst hq2
        (try dsimp only at hm)
        subst hm
        replace H := H.dropAt 0 rfl; simp only [List.eraseIdx_cons_succ, List.eraseIdx_cons_zero] at H
        exact ret1 rfl (rv_tmp rfl) rfl ⟨rfl, H⟩
      · have hc2 := hc
        clear hc
        replace hq2 := ifF hc2 hq2
        refine wp_skip ?_
        refine block_norm ?_
        refine then_norm ?_
        refine wp_region_lit ?_
        apply seq_op (V := .int .i64 (IntKind.i64.wrap ((k2 : Int) + 1))) rfl
        · intro Φ hΦ; refine O_bin rfl rfl rfl eqg_int r_add ?_; exact hΦ
        (try simp only [Act.put, List.setIfInBounds_toArray, List.set_cons_succ, List.set_cons_zero])
        apply seq_op (V := .int .i64 (IntKind.i64.wrap ((k2 : Int) + 1))) rfl
        · intro Φ hΦ; refine O_mv rfl rfl ?_; exact hΦ
        (try simp only [Act.put, List.setIfInBounds_toArray, List.set_cons_succ, List.set_cons_zero])
        refine list_end ?_
        refine then_norm ?_
        refine ⟨⟨⟨rfl, rfl, rfl, rfl, rfl, rfl, rfl⟩, rfl⟩, ⟨k2 + 1, _, hd2'', wrap_succ hl2 hn2, hq2, H⟩, ?_⟩
        exact meas_succ hl2 hn2
    · have hc1 := hc
      clear hc
      obtain rfl := rng_f hd2 hc1
      rw [slices_Index_Write_l2] at hq2
      refine wp_exit ?_
      refine then_exit ?_
      refine then_exit ?_
      subst hq2
      (try dsimp only at hm)
      refine block_exit ?_
      refine then_norm ?_
      refine wp_seq ?_
      refine wp_region_lit ?_
      apply seq_op (V := .int .i64 (-1)) rfl
      · intro Φ hΦ; refine O_as rfl rfl ?_; exact hΦ
      (try simp only [Act.put, List.setIfInBounds_toArray, List.set_cons_succ, List.set_cons_zero])
      refine list_end ?_
      refine then_norm ?_
      refine wp_ret ?_
      subst hm
      replace H := H.dropAt 0 rfl; simp only [List.eraseIdx_cons_succ, List.eraseIdx_cons_zero] at H
      exact ret1 rfl (rv_tmp rfl) rfl ⟨rfl, H⟩
def slices_Contains_Write_f (a0 : List Wr) (a1 : Wr) : Bool := (decide ((slices_Index_Write_f a0 a1) ≥ 0))

set_option maxHeartbeats 4000000 in
theorem slices_Contains_Write_w {E : World} {s : SH} {L : List HP} {w : World} {a0 : List Wr} {a1 : Wr} {A_p0 : Option Addr} {c_p0 : Nat} (h_p0 : kWr.Sl s (.slice A_p0 a0.length c_p0) a0) (H : Holds E s (L) w) :
    Calls Try.prog 31 #[.slice A_p0 a0.length c_p0, .agg #[.int .i64 a1.txn, .int .i64 a1.op]] w fun e w' => e = .returned (.bool (slices_Contains_Write_f a0 a1)) ∧ Holds E s (L) w' := by
  obtain ⟨R, hm⟩ : ∃ R, slices_Contains_Write_f a0 a1 = R := ⟨_, rfl⟩
  (try rw [hm])
  unfold slices_Contains_Write_f at hm
  go_enter Try.func31, Try.ntmps31
  refine wp_seq ?_
  refine wp_region_lit ?_
  refine OpG.list rfl ?_; refine B_x 41 _ rfl (v := .agg #[.int .i64 a1.txn, .int .i64 a1.op]) rfl H ?_; clear H; intro b3 w1 H; (try simp only [Value.cells] at H)
  (try simp only [Act.put, List.setIfInBounds_toArray, List.set_cons_succ, List.set_cons_zero])
  apply seq_op (V := .bool false) rfl
  · intro Φ hΦ; refine O_as rfl rfl ?_; exact hΦ
  (try simp only [Act.put, List.setIfInBounds_toArray, List.set_cons_succ, List.set_cons_zero])
  refine list_end ?_
  refine then_norm ?_
  refine wp_seq ?_
  refine wp_region_lit ?_
  apply seq_op (V := .slice A_p0 a0.length c_p0) rfl
  · intro Φ hΦ; refine O_mv rfl rfl ?_; exact hΦ
  (try simp only [Act.put, List.setIfInBounds_toArray, List.set_cons_succ, List.set_cons_zero])
  apply seq_op (V := .agg #[.int .i64 a1.txn, .int .i64 a1.op]) rfl
  · intro Φ hΦ; refine G_pNi 0 _ _ rfl (Try.isAgg41 _) rfl H rfl (Try.sizeOf41 _) ?_; exact hΦ
  (try simp only [Act.put, List.setIfInBounds_toArray, List.set_cons_succ, List.set_cons_zero])
  refine seq_call rfl (fun Φ hΦ => by refine O_call2 rfl Try.func69 rfl rfl rfl rfl hΦ) (slices_Index_Write_w (a0 := a0) (h_p0 := h_p0) (a1 := a1) (H := H)) ?_
  clear H
  rintro e w1 ⟨rfl, H⟩; refine ⟨_, rfl, ?_⟩
  (try simp only [Act.put, List.setIfInBounds_toArray, List.set_cons_succ, List.set_cons_zero])
  apply seq_op (V := .bool (decide ((slices_Index_Write_f a0 a1) ≥ 0))) rfl
  · intro Φ hΦ; refine O_bin rfl rfl rfl eqg_int r_geq ?_; exact hΦ
  (try simp only [Act.put, List.setIfInBounds_toArray, List.set_cons_succ, List.set_cons_zero])
  apply seq_op (V := .bool (decide ((slices_Index_Write_f a0 a1) ≥ 0))) rfl
  · intro Φ hΦ; refine O_as rfl rfl ?_; exact hΦ
  (try simp only [Act.put, List.setIfInBounds_toArray, List.set_cons_succ, List.set_cons_zero])
  refine list_end ?_
  refine then_norm ?_
  refine wp_ret ?_
  subst hm
  replace H := H.dropAt 0 rfl; simp only [List.eraseIdx_cons_succ, List.eraseIdx_cons_zero] at H
  exact ret1 rfl (rv_tmp rfl) rfl ⟨rfl, H⟩
def assayerlaw04_TableWriters_l9 (a0 : List Txn) (u1 : Tbl) (k6 : Nat) : Nat → List Op' → Option ((Bool ⊕ Unit))
  | k9, []  => some (.inr ())
  | k9, x9 :: r9 => (assayerref04_Writers_f (small a0) x9.key x9.value).bind fun u5 => (slices_Equal_Write_f (table_Table_Writers_f u1 x9.key x9.value) u5).bind fun u6 => if (!u6) = true then (some (.inl false)) else (if (!(((x9.kind == 1) || (x9.kind == 3)) == (slices_Contains_Write_f (table_Table_Writers_f u1 x9.key x9.value) (⟨(k6 : Int), (k9 : Int)⟩ : Wr)))) = true then (some (.inl false)) else (assayerlaw04_TableWriters_l9 a0 u1 k6 (k9 + 1) r9))

def assayerlaw04_TableWriters_l6 (a0 : List Txn) (u1 : Tbl) : Nat → List Txn → Option ((Bool ⊕ Unit))
  | k6, []  => some (.inr ())
  | k6, x6 :: r6 => (assayerlaw04_TableWriters_l9 a0 u1 k6 0 x6.ops).bind fun | .inl z9_r => (some (.inl z9_r)) | .inr () => (assayerlaw04_TableWriters_l6 a0 u1 (k6 + 1) r6)

noncomputable def assayerlaw04_TableWriters_f (a0 : List Txn) (a1 : ByteArray) (a2 : Int) : Option Bool := (table_New_f (small a0)).bind fun u1 => (assayerref04_Writers_f (small a0) a1 a2).bind fun u2 => (slices_Equal_Write_f (table_Table_Writers_f u1 a1 a2) u2).bind fun u3 => if (!u3) = true then (some false) else ((assayerref04_Unique_f (small a0)).bind fun u4 => if (!((table_Table_Unique_f u1) == u4)) = true then (some false) else ((assayerlaw04_TableWriters_l6 a0 u1 0 (small a0)).bind fun | .inl z6_r => (some z6_r) | .inr () => (some true)))

set_option maxHeartbeats 4000000 in
theorem assayerlaw04_TableWriters_w {E : World} {s : SH} {L : List HP} {w : World} {a0 : List Txn} {a1 : ByteArray} {a2 : Int} {A_p0 : Option Addr} {c_p0 : Nat} (h_p0 : kT.Sl s (.slice A_p0 a0.length c_p0) a0) (hz_p1 : a1.size ≤ 140737488351232) (hr_p2 : Kin.inI64 a2) {R : Bool} (hm : assayerlaw04_TableWriters_f a0 a1 a2 = some R) (H : Holds E s (L) w) :
    Calls Try.prog 6 #[.slice A_p0 a0.length c_p0, .string a1, .int .i64 a2] w fun e w' => e = .returned (.bool R) ∧ Holds E s (L) w' := by
  unfold assayerlaw04_TableWriters_f at hm
  go_enter Try.func6, Try.ntmps6
  refine wp_seq ?_
  refine wp_region_lit ?_
  apply seq_op (V := .bool false) rfl
  · intro Φ hΦ; refine O_as rfl rfl ?_; exact hΦ
  (try simp only [Act.put, List.setIfInBounds_toArray, List.set_cons_succ, List.set_cons_zero])
  refine list_end ?_
  refine then_norm ?_
  refine wp_seq ?_
  refine wp_region_lit ?_
  apply seq_op (V := .slice A_p0 a0.length c_p0) rfl
  · intro Φ hΦ; refine O_mv rfl rfl ?_; exact hΦ
  (try simp only [Act.put, List.setIfInBounds_toArray, List.set_cons_succ, List.set_cons_zero])
  refine seq_call rfl (fun Φ hΦ => by refine O_call1 rfl Try.func15 rfl rfl rfl hΦ) (Small_w' (a0 := a0) (h_p0 := h_p0) (H := H)) ?_
  clear H
  rintro e w1 ⟨Ar10, cr10, nr10, s1, rfl, hs', hr10, H⟩; refine ⟨_, rfl, ?_⟩
  obtain rfl := sl_n hr10
  replace h_p0 := h_p0.mono hs'
  have hS := hs'
  (try simp only [Act.put, List.setIfInBounds_toArray, List.set_cons_succ, List.set_cons_zero])
  apply seq_op (V := .slice Ar10 (small a0).length cr10) rfl
  · intro Φ hΦ; refine O_as rfl rfl ?_; exact hΦ
  (try simp only [Act.put, List.setIfInBounds_toArray, List.set_cons_succ, List.set_cons_zero])
  refine list_end ?_
  refine then_norm ?_
  refine wp_seq ?_
  obtain ⟨u1, gx1, hm⟩ := bs hm
  refine wp_region_lit ?_
  apply seq_op (V := .slice Ar10 (small a0).length cr10) rfl
  · intro Φ hΦ; refine O_mv rfl rfl ?_; exact hΦ
  (try simp only [Act.put, List.setIfInBounds_toArray, List.set_cons_succ, List.set_cons_zero])
  refine seq_call rfl (fun Φ hΦ => by refine O_call1 rfl Try.func16 rfl rfl rfl hΦ) (table_New_w (a0 := (small a0)) (h_p0 := hr10) (hm := gx1) (H := H)) ?_
  clear H
  rintro e w1 ⟨br20, Ar20_l, cr20_l, nr20_l, rr20_kinds, rr20_writers, s2, rfl, hs', H⟩; refine ⟨_, rfl, ?_⟩
  obtain rfl := osl_len 1 H rfl
  replace h_p0 := h_p0.mono hs'
  replace hr10 := hr10.mono hs'
  replace hS := hS.trans hs'
  (try simp only [Act.put, List.setIfInBounds_toArray, List.set_cons_succ, List.set_cons_zero])
  apply seq_op (V := .pointer (some ⟨br20, 0, none⟩)) rfl
  · intro Φ hΦ; refine O_as rfl rfl ?_; exact hΦ
  (try simp only [Act.put, List.setIfInBounds_toArray, List.set_cons_succ, List.set_cons_zero])
  refine list_end ?_
  refine then_norm ?_
  refine wp_seq ?_
  refine wp_seq ?_
  obtain ⟨u2, gx2, hm⟩ := bs hm
  obtain ⟨u3, gx3, hm⟩ := bs hm
  rcases Bool.eq_false_or_eq_true (!u3) with hg1 | hg1
  · replace hm := ifT hg1 hm
    refine wp_region_lit ?_
    apply seq_op (V := .pointer (some ⟨br20, 0, none⟩)) rfl
    · intro Φ hΦ; refine O_mv rfl rfl ?_; exact hΦ
    (try simp only [Act.put, List.setIfInBounds_toArray, List.set_cons_succ, List.set_cons_zero])
    apply seq_op (V := .string a1) rfl
    · intro Φ hΦ; refine O_mv rfl rfl ?_; exact hΦ
    (try simp only [Act.put, List.setIfInBounds_toArray, List.set_cons_succ, List.set_cons_zero])
    apply seq_op (V := .int .i64 a2) rfl
    · intro Φ hΦ; refine O_mv rfl rfl ?_; exact hΦ
    (try simp only [Act.put, List.setIfInBounds_toArray, List.set_cons_succ, List.set_cons_zero])
    obtain ⟨sl0, hsl0, hb0, H, bk0, bg0⟩ := lendAt 0 rfl H; simp only [List.eraseIdx_cons_succ, List.eraseIdx_cons_zero, List.cons_append] at H bk0
    obtain ⟨sl1, hsl1, hb1, H, bk1, bg1⟩ := lendOsl 0 rfl hsl0 H; simp only [List.eraseIdx_cons_succ, List.eraseIdx_cons_zero, List.cons_append] at H bk1
    obtain ⟨sl2, hsl2, hb2, H, bk2, bg2⟩ := lendMapF 0 rfl H; simp only [List.eraseIdx_cons_succ, List.eraseIdx_cons_zero, List.cons_append] at H bk2
    obtain ⟨sl3, hsl3, hb3, H, bk3, bg3⟩ := lendMapO 0 rfl ((hsl0.trans hsl1).trans hsl2) H; simp only [List.eraseIdx_cons_succ, List.eraseIdx_cons_zero, List.cons_append] at H bk3
    refine seq_call rfl (fun Φ hΦ => by refine O_call3 rfl Try.func29 rfl rfl rfl rfl rfl hΦ) (table_Table_Writers_w (a0 := u1) (hC_p0 := ((Cells.ofB hb0).mono ((hsl1.trans hsl2).trans hsl3))) (h_p0_l := (hb1.mono (hsl2.trans hsl3))) (h_p0_kinds := (hb2.mono hsl3)) (h_p0_writers := hb3) (a1 := a1) (hz_p1 := hz_p1) (a2 := a2) (hr_p2 := hr_p2) (H := H)) ?_
    clear H
    rintro e w1 ⟨Ar60, cr60, nr60, rfl, H⟩; refine ⟨_, rfl, ?_⟩
    obtain rfl := osl_len 0 H rfl
    replace H := Holds.mapAt 0 rfl (fun h k => Kin.Pure.osl (s := sl3) (t := s2) kWr_pure h k) H; simp only [List.set_cons_succ, List.set_cons_zero] at H
    have H := bg3 H
    have H := bg2 H
    have H := bg1 H
    have H := bg0 H
    replace H := H.front 4 rfl; simp only [List.eraseIdx_cons_succ, List.eraseIdx_cons_zero] at H
    obtain ⟨s5, hs', H, hf3⟩ := Kin.Osl.fr H; replace hf3 := hf3.unsh hs'
    replace h_p0 := h_p0.mono hs'
    replace hr10 := hr10.mono hs'
    replace H := Holds.mapAt (A := (kT.sh s2).Osl (.slice Ar20_l u1.l.length cr20_l) u1.l) (B := (kT.sh s5).Osl (.slice Ar20_l u1.l.length cr20_l) u1.l) 1 rfl (fun h k => Kin.Osl.sh_mono (d := kT) hs' h k) H; simp only [List.set_cons_succ, List.set_cons_zero] at H
    replace H := Holds.mapAt (A := mpO kcP kWr s2 rr20_writers u1.writers) (B := mpO kcP kWr s5 rr20_writers u1.writers) 3 rfl (fun h k => mpO_mono hs' h k) H; simp only [List.set_cons_succ, List.set_cons_zero] at H
    replace hS := hS.trans hs'
    (try simp only [Act.put, List.setIfInBounds_toArray, List.set_cons_succ, List.set_cons_zero])
    apply seq_op (V := .slice Ar10 (small a0).length cr10) rfl
    · intro Φ hΦ; refine O_mv rfl rfl ?_; exact hΦ
    (try simp only [Act.put, List.setIfInBounds_toArray, List.set_cons_succ, List.set_cons_zero])
    apply seq_op (V := .string a1) rfl
    · intro Φ hΦ; refine O_mv rfl rfl ?_; exact hΦ
    (try simp only [Act.put, List.setIfInBounds_toArray, List.set_cons_succ, List.set_cons_zero])
    apply seq_op (V := .int .i64 a2) rfl
    · intro Φ hΦ; refine O_mv rfl rfl ?_; exact hΦ
    (try simp only [Act.put, List.setIfInBounds_toArray, List.set_cons_succ, List.set_cons_zero])
    refine seq_call rfl (fun Φ hΦ => by refine O_call3 rfl Try.func30 rfl rfl rfl rfl rfl hΦ) (assayerref04_Writers_w (a0 := (small a0)) (h_p0 := hr10) (a1 := a1) (a2 := a2) (hm := gx2) (H := H)) ?_
    clear H
    rintro e w1 ⟨Ar70, cr70, nr70, rfl, H⟩; refine ⟨_, rfl, ?_⟩
    obtain rfl := osl_len 0 H rfl
    skip
    obtain ⟨s6, hs', H, hf4⟩ := Kin.Osl.fr H; replace hf4 := hf4.unsh hs'
    replace h_p0 := h_p0.mono hs'
    replace hr10 := hr10.mono hs'
    replace hf3 := hf3.mono hs'
    replace H := Holds.mapAt (A := (kT.sh s5).Osl (.slice Ar20_l u1.l.length cr20_l) u1.l) (B := (kT.sh s6).Osl (.slice Ar20_l u1.l.length cr20_l) u1.l) 1 rfl (fun h k => Kin.Osl.sh_mono (d := kT) hs' h k) H; simp only [List.set_cons_succ, List.set_cons_zero] at H
    replace H := Holds.mapAt (A := mpO kcP kWr s5 rr20_writers u1.writers) (B := mpO kcP kWr s6 rr20_writers u1.writers) 3 rfl (fun h k => mpO_mono hs' h k) H; simp only [List.set_cons_succ, List.set_cons_zero] at H
    replace hS := hS.trans hs'
    (try simp only [Act.put, List.setIfInBounds_toArray, List.set_cons_succ, List.set_cons_zero])
    refine seq_call rfl (fun Φ hΦ => by refine O_call2 rfl Try.func28 rfl rfl rfl rfl hΦ) (slices_Equal_Write_w (a0 := (table_Table_Writers_f u1 a1 a2)) (h_p0 := hf3) (a1 := u2) (h_p1 := hf4) (hm := gx3) (H := H)) ?_
    clear H
    rintro e w1 ⟨rfl, H⟩; refine ⟨_, rfl, ?_⟩
    (try simp only [Act.put, List.setIfInBounds_toArray, List.set_cons_succ, List.set_cons_zero])
    apply seq_op (V := .bool (!u3)) rfl
    · intro Φ hΦ; refine O_not rfl rfl ?_; exact hΦ
    (try simp only [Act.put, List.setIfInBounds_toArray, List.set_cons_succ, List.set_cons_zero])
    apply seq_op (V := .bool (!u3)) rfl
    · intro Φ hΦ; refine O_mv rfl rfl ?_; exact hΦ
    (try simp only [Act.put, List.setIfInBounds_toArray, List.set_cons_succ, List.set_cons_zero])
    refine seq_skip ((wanted_f rfl rfl rfl).trans (congrArg not hg1)) ?_
    (try simp only [Act.put, List.setIfInBounds_toArray, List.set_cons_succ, List.set_cons_zero])
    refine seq_skip ((wanted_f rfl rfl rfl).trans (congrArg not hg1)) ?_
    (try simp only [Act.put, List.setIfInBounds_toArray, List.set_cons_succ, List.set_cons_zero])
    refine seq_skip ((wanted_f rfl rfl rfl).trans (congrArg not hg1)) ?_
    (try simp only [Act.put, List.setIfInBounds_toArray, List.set_cons_succ, List.set_cons_zero])
    refine seq_skip ((wanted_f rfl rfl rfl).trans (congrArg not hg1)) ?_
    (try simp only [Act.put, List.setIfInBounds_toArray, List.set_cons_succ, List.set_cons_zero])
    refine seq_skip ((wanted_f rfl rfl rfl).trans (congrArg not hg1)) ?_
    (try simp only [Act.put, List.setIfInBounds_toArray, List.set_cons_succ, List.set_cons_zero])
    apply seq_op (V := .bool true) rfl
    · intro Φ hΦ; refine O_pickT rfl rfl hg1 rfl ?_; exact hΦ
    (try simp only [Act.put, List.setIfInBounds_toArray, List.set_cons_succ, List.set_cons_zero])
    refine list_end ?_
    refine then_norm ?_
    refine wp_cond_true rfl ?_
    refine wp_seq ?_
    refine wp_region_lit ?_
    apply seq_op (V := .bool false) rfl
    · intro Φ hΦ; refine O_as rfl rfl ?_; exact hΦ
    (try simp only [Act.put, List.setIfInBounds_toArray, List.set_cons_succ, List.set_cons_zero])
    refine list_end ?_
    refine then_norm ?_
    refine wp_ret ?_
    refine then_ret ?_
    have hm := Option.some.inj hm
    subst hm
    replace H := H.dropAt 3 rfl; simp only [List.eraseIdx_cons_succ, List.eraseIdx_cons_zero] at H
    replace H := H.dropAt 2 rfl; simp only [List.eraseIdx_cons_succ, List.eraseIdx_cons_zero] at H
    replace H := H.dropAt 1 rfl; simp only [List.eraseIdx_cons_succ, List.eraseIdx_cons_zero] at H
    replace H := H.dropAt 0 rfl; simp only [List.eraseIdx_cons_succ, List.eraseIdx_cons_zero] at H
    replace H := H.forget hS
    exact ret1 rfl (rv_tmp rfl) rfl ⟨rfl, H⟩
  · replace hm := ifF hg1 hm
    obtain ⟨u4, gx4, hm⟩ := bs hm
    refine wp_region_lit ?_
    apply seq_op (V := .pointer (some ⟨br20, 0, none⟩)) rfl
    · intro Φ hΦ; refine O_mv rfl rfl ?_; exact hΦ
    (try simp only [Act.put, List.setIfInBounds_toArray, List.set_cons_succ, List.set_cons_zero])
    apply seq_op (V := .string a1) rfl
    · intro Φ hΦ; refine O_mv rfl rfl ?_; exact hΦ
    (try simp only [Act.put, List.setIfInBounds_toArray, List.set_cons_succ, List.set_cons_zero])
    apply seq_op (V := .int .i64 a2) rfl
    · intro Φ hΦ; refine O_mv rfl rfl ?_; exact hΦ
    (try simp only [Act.put, List.setIfInBounds_toArray, List.set_cons_succ, List.set_cons_zero])
    obtain ⟨sl0, hsl0, hb0, H, bk0, bg0⟩ := lendAt 0 rfl H; simp only [List.eraseIdx_cons_succ, List.eraseIdx_cons_zero, List.cons_append] at H bk0
    obtain ⟨sl1, hsl1, hb1, H, bk1, bg1⟩ := lendOsl 0 rfl hsl0 H; simp only [List.eraseIdx_cons_succ, List.eraseIdx_cons_zero, List.cons_append] at H bk1
    obtain ⟨sl2, hsl2, hb2, H, bk2, bg2⟩ := lendMapF 0 rfl H; simp only [List.eraseIdx_cons_succ, List.eraseIdx_cons_zero, List.cons_append] at H bk2
    obtain ⟨sl3, hsl3, hb3, H, bk3, bg3⟩ := lendMapO 0 rfl ((hsl0.trans hsl1).trans hsl2) H; simp only [List.eraseIdx_cons_succ, List.eraseIdx_cons_zero, List.cons_append] at H bk3
    refine seq_call rfl (fun Φ hΦ => by refine O_call3 rfl Try.func29 rfl rfl rfl rfl rfl hΦ) (table_Table_Writers_w (a0 := u1) (hC_p0 := ((Cells.ofB hb0).mono ((hsl1.trans hsl2).trans hsl3))) (h_p0_l := (hb1.mono (hsl2.trans hsl3))) (h_p0_kinds := (hb2.mono hsl3)) (h_p0_writers := hb3) (a1 := a1) (hz_p1 := hz_p1) (a2 := a2) (hr_p2 := hr_p2) (H := H)) ?_
    clear H
    rintro e w1 ⟨Ar60, cr60, nr60, rfl, H⟩; refine ⟨_, rfl, ?_⟩
    obtain rfl := osl_len 0 H rfl
    replace H := Holds.mapAt 0 rfl (fun h k => Kin.Pure.osl (s := sl3) (t := s2) kWr_pure h k) H; simp only [List.set_cons_succ, List.set_cons_zero] at H
    have H := bg3 H
    have H := bg2 H
    have H := bg1 H
    have H := bg0 H
    replace H := H.front 4 rfl; simp only [List.eraseIdx_cons_succ, List.eraseIdx_cons_zero] at H
    obtain ⟨s5, hs', H, hf3⟩ := Kin.Osl.fr H; replace hf3 := hf3.unsh hs'
    replace h_p0 := h_p0.mono hs'
    replace hr10 := hr10.mono hs'
    replace H := Holds.mapAt (A := (kT.sh s2).Osl (.slice Ar20_l u1.l.length cr20_l) u1.l) (B := (kT.sh s5).Osl (.slice Ar20_l u1.l.length cr20_l) u1.l) 1 rfl (fun h k => Kin.Osl.sh_mono (d := kT) hs' h k) H; simp only [List.set_cons_succ, List.set_cons_zero] at H
    replace H := Holds.mapAt (A := mpO kcP kWr s2 rr20_writers u1.writers) (B := mpO kcP kWr s5 rr20_writers u1.writers) 3 rfl (fun h k => mpO_mono hs' h k) H; simp only [List.set_cons_succ, List.set_cons_zero] at H
    replace hS := hS.trans hs'
    (try simp only [Act.put, List.setIfInBounds_toArray, List.set_cons_succ, List.set_cons_zero])
    apply seq_op (V := .slice Ar10 (small a0).length cr10) rfl
    · intro Φ hΦ; refine O_mv rfl rfl ?_; exact hΦ
    (try simp only [Act.put, List.setIfInBounds_toArray, List.set_cons_succ, List.set_cons_zero])
    apply seq_op (V := .string a1) rfl
    · intro Φ hΦ; refine O_mv rfl rfl ?_; exact hΦ
    (try simp only [Act.put, List.setIfInBounds_toArray, List.set_cons_succ, List.set_cons_zero])
    apply seq_op (V := .int .i64 a2) rfl
    · intro Φ hΦ; refine O_mv rfl rfl ?_; exact hΦ
    (try simp only [Act.put, List.setIfInBounds_toArray, List.set_cons_succ, List.set_cons_zero])
    refine seq_call rfl (fun Φ hΦ => by refine O_call3 rfl Try.func30 rfl rfl rfl rfl rfl hΦ) (assayerref04_Writers_w (a0 := (small a0)) (h_p0 := hr10) (a1 := a1) (a2 := a2) (hm := gx2) (H := H)) ?_
    clear H
    rintro e w1 ⟨Ar70, cr70, nr70, rfl, H⟩; refine ⟨_, rfl, ?_⟩
    obtain rfl := osl_len 0 H rfl
    skip
    obtain ⟨s6, hs', H, hf4⟩ := Kin.Osl.fr H; replace hf4 := hf4.unsh hs'
    replace h_p0 := h_p0.mono hs'
    replace hr10 := hr10.mono hs'
    replace hf3 := hf3.mono hs'
    replace H := Holds.mapAt (A := (kT.sh s5).Osl (.slice Ar20_l u1.l.length cr20_l) u1.l) (B := (kT.sh s6).Osl (.slice Ar20_l u1.l.length cr20_l) u1.l) 1 rfl (fun h k => Kin.Osl.sh_mono (d := kT) hs' h k) H; simp only [List.set_cons_succ, List.set_cons_zero] at H
    replace H := Holds.mapAt (A := mpO kcP kWr s5 rr20_writers u1.writers) (B := mpO kcP kWr s6 rr20_writers u1.writers) 3 rfl (fun h k => mpO_mono hs' h k) H; simp only [List.set_cons_succ, List.set_cons_zero] at H
    replace hS := hS.trans hs'
    (try simp only [Act.put, List.setIfInBounds_toArray, List.set_cons_succ, List.set_cons_zero])
    refine seq_call rfl (fun Φ hΦ => by refine O_call2 rfl Try.func28 rfl rfl rfl rfl hΦ) (slices_Equal_Write_w (a0 := (table_Table_Writers_f u1 a1 a2)) (h_p0 := hf3) (a1 := u2) (h_p1 := hf4) (hm := gx3) (H := H)) ?_
    clear H
    rintro e w1 ⟨rfl, H⟩; refine ⟨_, rfl, ?_⟩
    (try simp only [Act.put, List.setIfInBounds_toArray, List.set_cons_succ, List.set_cons_zero])
    apply seq_op (V := .bool (!u3)) rfl
    · intro Φ hΦ; refine O_not rfl rfl ?_; exact hΦ
    (try simp only [Act.put, List.setIfInBounds_toArray, List.set_cons_succ, List.set_cons_zero])
    apply seq_op (V := .bool (!u3)) rfl
    · intro Φ hΦ; refine O_mv rfl rfl ?_; exact hΦ
    (try simp only [Act.put, List.setIfInBounds_toArray, List.set_cons_succ, List.set_cons_zero])
    refine seq_opw (V := .pointer (some ⟨br20, 0, none⟩)) ((wanted_f rfl rfl rfl).trans (congrArg not hg1)) ?_ ?_
    · intro Φ hΦ; refine O_mv rfl rfl ?_; exact hΦ
    (try simp only [Act.put, List.setIfInBounds_toArray, List.set_cons_succ, List.set_cons_zero])
    refine seq_opHw (V := .bool (table_Table_Unique_f u1)) H ((wanted_f rfl rfl rfl).trans (congrArg not hg1)) ?_ ?_
    · intro Φ hΦ; refine O_call1 rfl Try.func17 rfl rfl rfl ?_; obtain ⟨sl0, hsl0, hb0, H, bk0, bg0⟩ := lendAt 0 rfl H; simp only [List.eraseIdx_cons_succ, List.eraseIdx_cons_zero, List.cons_append] at H bk0; obtain ⟨sl1, hsl1, hb1, H, bk1, bg1⟩ := lendOsl 0 rfl hsl0 H; simp only [List.eraseIdx_cons_succ, List.eraseIdx_cons_zero, List.cons_append] at H bk1; obtain ⟨sl2, hsl2, hb2, H, bk2, bg2⟩ := lendMapF 0 rfl H; simp only [List.eraseIdx_cons_succ, List.eraseIdx_cons_zero, List.cons_append] at H bk2; obtain ⟨sl3, hsl3, hb3, H, bk3, bg3⟩ := lendMapO 0 rfl ((hsl0.trans hsl1).trans hsl2) H; simp only [List.eraseIdx_cons_succ, List.eraseIdx_cons_zero, List.cons_append] at H bk3; refine (table_Table_Unique_w (a0 := u1) (hC_p0 := ((Cells.ofB hb0).mono ((hsl1.trans hsl2).trans hsl3))) (h_p0_l := (hb1.mono (hsl2.trans hsl3))) (h_p0_kinds := (hb2.mono hsl3)) (h_p0_writers := hb3) (H := H)).mono ?_; rintro e w2 ⟨rfl, H⟩; have H := bk3 H; have H := bk2 H; have H := bk1 H; have H := bk0 H; exact ⟨_, rfl, hΦ _ H⟩
    clear H; intro w1 H
    (try simp only [Act.put, List.setIfInBounds_toArray, List.set_cons_succ, List.set_cons_zero])
    refine seq_opw (V := .slice Ar10 (small a0).length cr10) ((wanted_f rfl rfl rfl).trans (congrArg not hg1)) ?_ ?_
    · intro Φ hΦ; refine O_mv rfl rfl ?_; exact hΦ
    (try simp only [Act.put, List.setIfInBounds_toArray, List.set_cons_succ, List.set_cons_zero])
    refine seq_callw ((wanted_f rfl rfl rfl).trans (congrArg not hg1)) (fun Φ hΦ => by refine O_call1 rfl Try.func18 rfl rfl rfl hΦ) (assayerref04_Unique_w (a0 := (small a0)) (h_p0 := hr10) (hm := gx4) (H := H)) ?_
    clear H
    rintro e w1 ⟨rfl, H⟩; refine ⟨_, rfl, ?_⟩
    (try simp only [Act.put, List.setIfInBounds_toArray, List.set_cons_succ, List.set_cons_zero])
    refine seq_opw (V := .bool (!((table_Table_Unique_f u1) == u4))) ((wanted_f rfl rfl rfl).trans (congrArg not hg1)) ?_ ?_
    · intro Φ hΦ; refine O_bin rfl rfl rfl eqg_bool (r_bne Try.underlying4) ?_; exact hΦ
    (try simp only [Act.put, List.setIfInBounds_toArray, List.set_cons_succ, List.set_cons_zero])
    apply seq_op (V := .bool (!((table_Table_Unique_f u1) == u4))) rfl
    · intro Φ hΦ; refine O_pickF rfl rfl hg1 rfl ?_; exact hΦ
    (try simp only [Act.put, List.setIfInBounds_toArray, List.set_cons_succ, List.set_cons_zero])
    refine list_end ?_
    refine then_norm ?_
    refine wp_cond_split rfl (fun hc => ?_) (fun hc => ?_)
    · have hc1 := hc
      clear hc
      replace hm := ifT hc1 hm
      refine wp_seq ?_
      refine wp_region_lit ?_
      apply seq_op (V := .bool false) rfl
      · intro Φ hΦ; refine O_as rfl rfl ?_; exact hΦ
      (try simp only [Act.put, List.setIfInBounds_toArray, List.set_cons_succ, List.set_cons_zero])
      refine list_end ?_
      refine then_norm ?_
      refine wp_ret ?_
      refine then_ret ?_
      have hm := Option.some.inj hm
      subst hm
      replace H := H.dropAt 3 rfl; simp only [List.eraseIdx_cons_succ, List.eraseIdx_cons_zero] at H
      replace H := H.dropAt 2 rfl; simp only [List.eraseIdx_cons_succ, List.eraseIdx_cons_zero] at H
      replace H := H.dropAt 1 rfl; simp only [List.eraseIdx_cons_succ, List.eraseIdx_cons_zero] at H
      replace H := H.dropAt 0 rfl; simp only [List.eraseIdx_cons_succ, List.eraseIdx_cons_zero] at H
      replace H := H.forget hS
      exact ret1 rfl (rv_tmp rfl) rfl ⟨rfl, H⟩
    · have hc1 := hc
      clear hc
      replace hm := ifF hc1 hm
      refine wp_skip ?_
      refine then_norm ?_
      refine wp_seq ?_
      refine wp_seq ?_
      refine wp_region_lit ?_
      apply seq_op (V := .slice Ar10 (small a0).length cr10) rfl
      · intro Φ hΦ; refine O_mv rfl rfl ?_; exact hΦ
      (try simp only [Act.put, List.setIfInBounds_toArray, List.set_cons_succ, List.set_cons_zero])
      apply seq_op (V := .int .i64 ((small a0).length : Int)) rfl
      · intro Φ hΦ; refine O_len rfl Try.underlying22 rfl ?_; exact hΦ
      (try simp only [Act.put, List.setIfInBounds_toArray, List.set_cons_succ, List.set_cons_zero])
      apply seq_op (V := .int .i64 0) rfl
      · intro Φ hΦ; refine O_mv rfl rfl ?_; exact hΦ
      (try simp only [Act.put, List.setIfInBounds_toArray, List.set_cons_succ, List.set_cons_zero])
      refine list_end ?_
      refine then_norm ?_
      refine wp_block ?_
      obtain ⟨R6, hq6, hm⟩ := bs hm
      have hn6 := Nat.le_trans (len_le (d := kT) hr10 (by decide)) (by decide : (140737488355328 : Nat) ≤ 9223372036854775807)
      refine wp_loopF [none, none, none, none, none, none, some 6, none, some 8, some 9, some 10, some 11, some 12, some 13, none, none, none, none, none, none, none, none, none, none, none, none, none, none, none, none, none, none, none, none, none, none, none, some 37, some 38, some 39, some 40, some 41, some 42, some 43, some 44, some 45, some 46, some 47, some 48, some 49, some 50, some 51, some 52, some 53, some 54, some 55, some 56, some 57, some 58, some 59, some 60, some 61, some 62, some 63, some 64, some 65, some 66, some 67, some 68, some 69, some 70, some 71, some 72, some 73, some 74, some 75, some 76, some 77, some 78, some 79, some 80, some 81] rfl (by simp) (fun f w => ∃ (k6 : Nat) (r6 : List Txn) (sL6 : SH), Sub s6 sL6 ∧ (small a0).drop k6 = r6 ∧ f 37 = .int .i64 (k6 : Int) ∧ assayerlaw04_TableWriters_l6 a0 u1 k6 r6 = some R6 ∧ Holds E sL6 (pt br20 (.cells #[.slice Ar20_l u1.l.length cr20_l, .map (some rr20_kinds), .map (some rr20_writers), .bool u1.made] 98 (0, 0)) :: (kT.sh sL6).Osl (.slice Ar20_l u1.l.length cr20_l) u1.l :: mpF kcS vcI rr20_kinds u1.kinds :: mpO kcP kWr sL6 rr20_writers u1.writers :: L) w) (fun f w => (small a0).length - (intOf (f 37)).toNat) ?_ ?_
      · exact ⟨0, (small a0), s6, Sub.refl _, rfl, rfl, hq6, H⟩
      · clear H
        intro f w hI
        obtain ⟨k6, r6, sL6, hs6, hd6, hf37, hq6', H⟩ := hI
        clear hq6; have hq6 := hq6'; clear hq6'
        simp only [ovm, mixM]
        simp only [hf37]; clear hf37
        replace h_p0 := h_p0.mono hs6
        replace hr10 := hr10.mono hs6
        replace hf3 := hf3.mono hs6
        replace hf4 := hf4.mono hs6
        replace hS := hS.trans hs6
        refine wp_seq ?_
        refine wp_region_lit ?_
        apply seq_op (V := .bool (decide ((k6 : Int) < ((small a0).length : Int)))) rfl
        · intro Φ hΦ; refine O_bin rfl rfl rfl eqg_int r_lss ?_; exact hΦ
        (try simp only [Act.put, List.setIfInBounds_toArray, List.set_cons_succ, List.set_cons_zero])
        refine list_end ?_
        refine then_norm ?_
        refine wp_seq ?_
        refine wp_cond_split rfl (fun hc => ?_) (fun hc => ?_)
        · have hc2 := hc
          clear hc
          obtain ⟨x6, r6', rfl, hd6', hd6'', hl6⟩ := rng_t hd6 hc2
          rw [assayerlaw04_TableWriters_l6] at hq6
          refine wp_skip ?_
          refine then_norm ?_
          refine wp_seq ?_
          refine wp_block ?_
          refine wp_seq ?_
          obtain ⟨be1, oe1, A4e1, c4e1, rfl, hCe1, h0e1, h1e1, h2e1, h3e1, h4e1⟩ := kT_el hr10 hd6'
          refine wp_region_lit ?_
          apply seq_op (V := .int .i64 (k6 : Int)) rfl
          · intro Φ hΦ; refine O_mv rfl rfl ?_; exact hΦ
          (try simp only [Act.put, List.setIfInBounds_toArray, List.set_cons_succ, List.set_cons_zero])
          apply seq_op (V := .pointer (some ⟨be1, oe1 + k6 * 5, none⟩)) rfl
          · intro Φ hΦ; refine O_ix rfl Try.underlying22 (Try.sizeOf30 _) rfl rfl rfl hl6 ?_; exact hΦ
          (try simp only [Act.put, List.setIfInBounds_toArray, List.set_cons_succ, List.set_cons_zero])
          apply seq_op (V := .agg #[.int .i64 x6.proc, .int .i64 x6.state, .int .i64 x6.from_, .int .i64 x6.to, .slice A4e1 x6.ops.length c4e1]) rfl
          · intro Φ hΦ; refine G_sN _ _ rfl (Try.isAgg30 _) rfl H hCe1 (Try.sizeOf30 _) ?_; exact hΦ
          (try simp only [Act.put, List.setIfInBounds_toArray, List.set_cons_succ, List.set_cons_zero])
          refine OpG.list rfl ?_; refine G_alloc 30 rfl (Try.zeroValue30 _) H ?_; clear H; intro b9 w1 H; (try simp only [Value.cells] at H)
          (try simp only [Act.put, List.setIfInBounds_toArray, List.set_cons_succ, List.set_cons_zero])
          apply seq_op (V := .int .i64 (k6 : Int)) rfl
          · intro Φ hΦ; refine O_as rfl rfl ?_; exact hΦ
          (try simp only [Act.put, List.setIfInBounds_toArray, List.set_cons_succ, List.set_cons_zero])
          refine OpG.list rfl ?_; refine G_setNi 0 (c := [.int .i64 x6.proc, .int .i64 x6.state, .int .i64 x6.from_, .int .i64 x6.to, .slice A4e1 x6.ops.length c4e1]) _ _ _ rfl (Try.sizeOf30 _) rfl rfl (by simp [Value.oneCell']) H rfl rfl ?_; clear H; intro w1 H; simp only [List.set_cons_succ, List.set_cons_zero] at H
          (try simp only [Act.put, List.setIfInBounds_toArray, List.set_cons_succ, List.set_cons_zero])
          refine list_end ?_
          refine then_norm ?_
          refine wp_seq ?_
          refine wp_region_lit ?_
          apply seq_op (V := .pointer (some ⟨b9, 4, none⟩)) rfl
          · intro Φ hΦ; refine O_fld rfl Try.underlying30 rfl (Try.sizeOf28 _) rfl ?_; exact hΦ
          (try simp only [Act.put, List.setIfInBounds_toArray, List.set_cons_succ, List.set_cons_zero])
          apply seq_op (V := .slice A4e1 x6.ops.length c4e1) rfl
          · intro Φ hΦ; refine L_1 0 _ _ rfl (Try.isAgg28 _) rfl H rfl rfl ?_; exact hΦ
          (try simp only [Act.put, List.setIfInBounds_toArray, List.set_cons_succ, List.set_cons_zero])
          apply seq_op (V := .int .i64 (x6.ops.length : Int)) rfl
          · intro Φ hΦ; refine O_len rfl Try.underlying28 rfl ?_; exact hΦ
          (try simp only [Act.put, List.setIfInBounds_toArray, List.set_cons_succ, List.set_cons_zero])
          apply seq_op (V := .int .i64 0) rfl
          · intro Φ hΦ; refine O_mv rfl rfl ?_; exact hΦ
          (try simp only [Act.put, List.setIfInBounds_toArray, List.set_cons_succ, List.set_cons_zero])
          refine list_end ?_
          refine then_norm ?_
          refine wp_block ?_
          obtain ⟨R9, hq9, hq6⟩ := bs hq6
          have hn9 := Nat.le_trans (len_le (d := kOp) h4e1 (by decide)) (by decide : (140737488355328 : Nat) ≤ 9223372036854775807)
          refine wp_loopF [none, none, none, none, none, none, some 6, none, none, none, some 10, some 11, some 12, some 13, none, none, none, none, none, none, none, none, none, none, none, none, none, none, none, none, none, none, none, none, none, none, none, none, none, none, none, none, none, none, none, some 45, some 46, some 47, some 48, some 49, some 50, some 51, some 52, some 53, some 54, some 55, some 56, some 57, some 58, some 59, some 60, some 61, some 62, some 63, some 64, some 65, some 66, some 67, some 68, some 69, some 70, some 71, some 72, some 73, some 74, some 75, some 76, some 77, some 78, some 79, some 80, none] rfl (by simp) (fun f w => ∃ (k9 : Nat) (r9 : List Op') (sL9 : SH), Sub sL6 sL9 ∧ x6.ops.drop k9 = r9 ∧ f 45 = .int .i64 (k9 : Int) ∧ assayerlaw04_TableWriters_l9 a0 u1 k6 k9 r9 = some R9 ∧ Holds E sL9 (pt b9 (.cells #[.int .i64 x6.proc, .int .i64 x6.state, .int .i64 x6.from_, .int .i64 x6.to, .slice A4e1 x6.ops.length c4e1] 30 (0, 0)) :: pt br20 (.cells #[.slice Ar20_l u1.l.length cr20_l, .map (some rr20_kinds), .map (some rr20_writers), .bool u1.made] 98 (0, 0)) :: (kT.sh sL9).Osl (.slice Ar20_l u1.l.length cr20_l) u1.l :: mpF kcS vcI rr20_kinds u1.kinds :: mpO kcP kWr sL9 rr20_writers u1.writers :: L) w) (fun f w => x6.ops.length - (intOf (f 45)).toNat) ?_ ?_
          · exact ⟨0, x6.ops, sL6, Sub.refl _, rfl, rfl, hq9, H⟩
          · clear H
            intro f w hI
            obtain ⟨k9, r9, sL9, hs9, hd9, hf45, hq9', H⟩ := hI
            clear hq9; have hq9 := hq9'; clear hq9'
            simp only [ovm, mixM]
            simp only [hf45]; clear hf45
            replace h_p0 := h_p0.mono hs9
            replace hr10 := hr10.mono hs9
            replace hf3 := hf3.mono hs9
            replace hf4 := hf4.mono hs9
            replace hCe1 := hCe1.mono hs9
            replace h4e1 := h4e1.mono hs9
            replace hS := hS.trans hs9
            replace hs6 := hs6.trans hs9
            refine wp_seq ?_
            refine wp_region_lit ?_
            apply seq_op (V := .bool (decide ((k9 : Int) < (x6.ops.length : Int)))) rfl
            · intro Φ hΦ; refine O_bin rfl rfl rfl eqg_int r_lss ?_; exact hΦ
            (try simp only [Act.put, List.setIfInBounds_toArray, List.set_cons_succ, List.set_cons_zero])
            refine list_end ?_
            refine then_norm ?_
            refine wp_seq ?_
            refine wp_cond_split rfl (fun hc => ?_) (fun hc => ?_)
            · have hc3 := hc
              clear hc
              obtain ⟨x9, r9', rfl, hd9', hd9'', hl9⟩ := rng_t hd9 hc3
              rw [assayerlaw04_TableWriters_l9] at hq9
              refine wp_skip ?_
              refine then_norm ?_
              refine wp_seq ?_
              refine wp_block ?_
              refine wp_seq ?_
              obtain ⟨be2, oe2, A3e2, c3e2, rfl, hCe2, h0e2, h1e2, h2e2, h3e2⟩ := kOp_el h4e1 hd9'
              refine wp_region_lit ?_
              apply seq_op (V := .int .i64 (k9 : Int)) rfl
              · intro Φ hΦ; refine O_mv rfl rfl ?_; exact hΦ
              (try simp only [Act.put, List.setIfInBounds_toArray, List.set_cons_succ, List.set_cons_zero])
              apply seq_op (V := .pointer (some ⟨be2, oe2 + k9 * 6, none⟩)) rfl
              · intro Φ hΦ; refine O_ix rfl Try.underlying28 (Try.sizeOf35 _) rfl rfl rfl hl9 ?_; exact hΦ
              (try simp only [Act.put, List.setIfInBounds_toArray, List.set_cons_succ, List.set_cons_zero])
              apply seq_op (V := .agg #[.int .i64 x9.kind, .string x9.key, .int .i64 x9.value, .slice A3e2 x9.list.length c3e2, .bool x9.has, .bool x9.isNil]) rfl
              · intro Φ hΦ; refine G_sN _ _ rfl (Try.isAgg35 _) rfl H hCe2 (Try.sizeOf35 _) ?_; exact hΦ
              (try simp only [Act.put, List.setIfInBounds_toArray, List.set_cons_succ, List.set_cons_zero])
              refine OpG.list rfl ?_; refine G_alloc 35 rfl (Try.zeroValue35 _) H ?_; clear H; intro b11 w1 H; (try simp only [Value.cells] at H)
              (try simp only [Act.put, List.setIfInBounds_toArray, List.set_cons_succ, List.set_cons_zero])
              apply seq_op (V := .int .i64 (k9 : Int)) rfl
              · intro Φ hΦ; refine O_as rfl rfl ?_; exact hΦ
              (try simp only [Act.put, List.setIfInBounds_toArray, List.set_cons_succ, List.set_cons_zero])
              refine OpG.list rfl ?_; refine G_setNi 0 (c := [.int .i64 x9.kind, .string x9.key, .int .i64 x9.value, .slice A3e2 x9.list.length c3e2, .bool x9.has, .bool x9.isNil]) _ _ _ rfl (Try.sizeOf35 _) rfl rfl (by simp [Value.oneCell']) H rfl rfl ?_; clear H; intro w1 H; simp only [List.set_cons_succ, List.set_cons_zero] at H
              (try simp only [Act.put, List.setIfInBounds_toArray, List.set_cons_succ, List.set_cons_zero])
              refine list_end ?_
              refine then_norm ?_
              refine wp_seq ?_
              refine wp_region_lit ?_
              apply seq_op (V := .pointer (some ⟨br20, 0, none⟩)) rfl
              · intro Φ hΦ; refine O_mv rfl rfl ?_; exact hΦ
              (try simp only [Act.put, List.setIfInBounds_toArray, List.set_cons_succ, List.set_cons_zero])
              apply seq_op (V := .pointer (some ⟨b11, 1, none⟩)) rfl
              · intro Φ hΦ; refine O_fld rfl Try.underlying35 rfl (Try.sizeOf9 _) rfl ?_; exact hΦ
              (try simp only [Act.put, List.setIfInBounds_toArray, List.set_cons_succ, List.set_cons_zero])
              apply seq_op (V := .string x9.key) rfl
              · intro Φ hΦ; refine L_1 0 _ _ rfl (Try.isAgg9 _) rfl H rfl rfl ?_; exact hΦ
              (try simp only [Act.put, List.setIfInBounds_toArray, List.set_cons_succ, List.set_cons_zero])
              apply seq_op (V := .pointer (some ⟨b11, 2, none⟩)) rfl
              · intro Φ hΦ; refine O_fld rfl Try.underlying35 rfl (Try.sizeOf3 _) rfl ?_; exact hΦ
              (try simp only [Act.put, List.setIfInBounds_toArray, List.set_cons_succ, List.set_cons_zero])
              apply seq_op (V := .int .i64 x9.value) rfl
              · intro Φ hΦ; refine L_1 0 _ _ rfl (Try.isAgg3 _) rfl H rfl rfl ?_; exact hΦ
              (try simp only [Act.put, List.setIfInBounds_toArray, List.set_cons_succ, List.set_cons_zero])
              obtain ⟨sl0, hsl0, hb0, H, bk0, bg0⟩ := lendAt 2 rfl H; simp only [List.eraseIdx_cons_succ, List.eraseIdx_cons_zero, List.cons_append] at H bk0
              obtain ⟨sl1, hsl1, hb1, H, bk1, bg1⟩ := lendOsl 2 rfl hsl0 H; simp only [List.eraseIdx_cons_succ, List.eraseIdx_cons_zero, List.cons_append] at H bk1
              obtain ⟨sl2, hsl2, hb2, H, bk2, bg2⟩ := lendMapF 2 rfl H; simp only [List.eraseIdx_cons_succ, List.eraseIdx_cons_zero, List.cons_append] at H bk2
              obtain ⟨sl3, hsl3, hb3, H, bk3, bg3⟩ := lendMapO 2 rfl ((hsl0.trans hsl1).trans hsl2) H; simp only [List.eraseIdx_cons_succ, List.eraseIdx_cons_zero, List.cons_append] at H bk3
              refine seq_call rfl (fun Φ hΦ => by refine O_call3 rfl Try.func29 rfl rfl rfl rfl rfl hΦ) (table_Table_Writers_w (a0 := u1) (hC_p0 := ((Cells.ofB hb0).mono ((hsl1.trans hsl2).trans hsl3))) (h_p0_l := (hb1.mono (hsl2.trans hsl3))) (h_p0_kinds := (hb2.mono hsl3)) (h_p0_writers := hb3) (a1 := x9.key) (hz_p1 := h1e2) (a2 := x9.value) (hr_p2 := h2e2) (H := H)) ?_
              clear H
              rintro e w1 ⟨Ar100, cr100, nr100, rfl, H⟩; refine ⟨_, rfl, ?_⟩
              obtain rfl := osl_len 0 H rfl
              replace H := Holds.mapAt 0 rfl (fun h k => Kin.Pure.osl (s := sl3) (t := sL9) kWr_pure h k) H; simp only [List.set_cons_succ, List.set_cons_zero] at H
              have H := bg3 H
              have H := bg2 H
              have H := bg1 H
              have H := bg0 H
              replace H := H.front 4 rfl; simp only [List.eraseIdx_cons_succ, List.eraseIdx_cons_zero] at H
              obtain ⟨s7, hs', H, hf5⟩ := Kin.Osl.fr H; replace hf5 := hf5.unsh hs'
              replace h_p0 := h_p0.mono hs'
              replace hr10 := hr10.mono hs'
              replace hf3 := hf3.mono hs'
              replace hf4 := hf4.mono hs'
              replace hCe1 := hCe1.mono hs'
              replace h4e1 := h4e1.mono hs'
              replace hCe2 := hCe2.mono hs'
              replace h3e2 := h3e2.mono hs'
              replace H := Holds.mapAt (A := (kT.sh sL9).Osl (.slice Ar20_l u1.l.length cr20_l) u1.l) (B := (kT.sh s7).Osl (.slice Ar20_l u1.l.length cr20_l) u1.l) 1 rfl (fun h k => Kin.Osl.sh_mono (d := kT) hs' h k) H; simp only [List.set_cons_succ, List.set_cons_zero] at H
              replace H := Holds.mapAt (A := mpO kcP kWr sL9 rr20_writers u1.writers) (B := mpO kcP kWr s7 rr20_writers u1.writers) 3 rfl (fun h k => mpO_mono hs' h k) H; simp only [List.set_cons_succ, List.set_cons_zero] at H
              replace hS := hS.trans hs'
              replace hs6 := hs6.trans hs'
              replace hs9 := hs9.trans hs'
              (try simp only [Act.put, List.setIfInBounds_toArray, List.set_cons_succ, List.set_cons_zero])
              apply seq_op (V := .slice Ar100 (table_Table_Writers_f u1 x9.key x9.value).length cr100) rfl
              · intro Φ hΦ; refine O_as rfl rfl ?_; exact hΦ
              (try simp only [Act.put, List.setIfInBounds_toArray, List.set_cons_succ, List.set_cons_zero])
              refine list_end ?_
              refine then_norm ?_
              refine wp_seq ?_
              refine wp_seq ?_
              obtain ⟨u5, gx5, hq9⟩ := bs hq9
              obtain ⟨u6, gx6, hq9⟩ := bs hq9
              refine wp_region_lit ?_
              apply seq_op (V := .slice Ar100 (table_Table_Writers_f u1 x9.key x9.value).length cr100) rfl
              · intro Φ hΦ; refine O_mv rfl rfl ?_; exact hΦ
              (try simp only [Act.put, List.setIfInBounds_toArray, List.set_cons_succ, List.set_cons_zero])
              apply seq_op (V := .slice (some ⟨be1, oe1, none⟩) (small a0).length cr10) rfl
              · intro Φ hΦ; refine O_mv rfl rfl ?_; exact hΦ
              (try simp only [Act.put, List.setIfInBounds_toArray, List.set_cons_succ, List.set_cons_zero])
              apply seq_op (V := .pointer (some ⟨b11, 1, none⟩)) rfl
              · intro Φ hΦ; refine O_fld rfl Try.underlying35 rfl (Try.sizeOf9 _) rfl ?_; exact hΦ
              (try simp only [Act.put, List.setIfInBounds_toArray, List.set_cons_succ, List.set_cons_zero])
              apply seq_op (V := .string x9.key) rfl
              · intro Φ hΦ; refine L_1 4 _ _ rfl (Try.isAgg9 _) rfl H rfl rfl ?_; exact hΦ
              (try simp only [Act.put, List.setIfInBounds_toArray, List.set_cons_succ, List.set_cons_zero])
              apply seq_op (V := .pointer (some ⟨b11, 2, none⟩)) rfl
              · intro Φ hΦ; refine O_fld rfl Try.underlying35 rfl (Try.sizeOf3 _) rfl ?_; exact hΦ
              (try simp only [Act.put, List.setIfInBounds_toArray, List.set_cons_succ, List.set_cons_zero])
              apply seq_op (V := .int .i64 x9.value) rfl
              · intro Φ hΦ; refine L_1 4 _ _ rfl (Try.isAgg3 _) rfl H rfl rfl ?_; exact hΦ
              (try simp only [Act.put, List.setIfInBounds_toArray, List.set_cons_succ, List.set_cons_zero])
              refine seq_call rfl (fun Φ hΦ => by refine O_call3 rfl Try.func30 rfl rfl rfl rfl rfl hΦ) (assayerref04_Writers_w (a0 := (small a0)) (h_p0 := hr10) (a1 := x9.key) (a2 := x9.value) (hm := gx5) (H := H)) ?_
              clear H
              rintro e w1 ⟨Ar110, cr110, nr110, rfl, H⟩; refine ⟨_, rfl, ?_⟩
              obtain rfl := osl_len 0 H rfl
              skip
              obtain ⟨s8, hs', H, hf6⟩ := Kin.Osl.fr H; replace hf6 := hf6.unsh hs'
              replace h_p0 := h_p0.mono hs'
              replace hr10 := hr10.mono hs'
              replace hf3 := hf3.mono hs'
              replace hf4 := hf4.mono hs'
              replace hCe1 := hCe1.mono hs'
              replace h4e1 := h4e1.mono hs'
              replace hCe2 := hCe2.mono hs'
              replace h3e2 := h3e2.mono hs'
              replace hf5 := hf5.mono hs'
              replace H := Holds.mapAt (A := (kT.sh s7).Osl (.slice Ar20_l u1.l.length cr20_l) u1.l) (B := (kT.sh s8).Osl (.slice Ar20_l u1.l.length cr20_l) u1.l) 1 rfl (fun h k => Kin.Osl.sh_mono (d := kT) hs' h k) H; simp only [List.set_cons_succ, List.set_cons_zero] at H
              replace H := Holds.mapAt (A := mpO kcP kWr s7 rr20_writers u1.writers) (B := mpO kcP kWr s8 rr20_writers u1.writers) 3 rfl (fun h k => mpO_mono hs' h k) H; simp only [List.set_cons_succ, List.set_cons_zero] at H
              replace hS := hS.trans hs'
              replace hs6 := hs6.trans hs'
              replace hs9 := hs9.trans hs'
              (try simp only [Act.put, List.setIfInBounds_toArray, List.set_cons_succ, List.set_cons_zero])
              refine seq_call rfl (fun Φ hΦ => by refine O_call2 rfl Try.func28 rfl rfl rfl rfl hΦ) (slices_Equal_Write_w (a0 := (table_Table_Writers_f u1 x9.key x9.value)) (h_p0 := hf5) (a1 := u5) (h_p1 := hf6) (hm := gx6) (H := H)) ?_
              clear H
              rintro e w1 ⟨rfl, H⟩; refine ⟨_, rfl, ?_⟩
              (try simp only [Act.put, List.setIfInBounds_toArray, List.set_cons_succ, List.set_cons_zero])
              apply seq_op (V := .bool (!u6)) rfl
              · intro Φ hΦ; refine O_not rfl rfl ?_; exact hΦ
              (try simp only [Act.put, List.setIfInBounds_toArray, List.set_cons_succ, List.set_cons_zero])
              refine list_end ?_
              refine then_norm ?_
              refine wp_cond_split rfl (fun hc => ?_) (fun hc => ?_)
              · have hc4 := hc
                clear hc
                replace hq9 := ifT hc4 hq9
                refine wp_seq ?_
                refine wp_region_lit ?_
                apply seq_op (V := .bool false) rfl
                · intro Φ hΦ; refine O_as rfl rfl ?_; exact hΦ
                (try simp only [Act.put, List.setIfInBounds_toArray, List.set_cons_succ, List.set_cons_zero])
                refine list_end ?_
                refine then_norm ?_
                refine wp_ret ?_
                refine then_ret ?_
                refine block_ret ?_
                refine then_ret ?_
                refine then_ret ?_
                refine block_ret ?_
                refine block_ret ?_
                refine then_ret ?_
                refine then_ret ?_
                refine block_ret ?_
                refine then_ret ?_
                have hq9 := Option.some.inj hq9
                subst hq9
                (try dsimp only at hq6)
                have hq6 := Option.some.inj hq6
                subst hq6
                (try dsimp only at hm)
                have hm := Option.some.inj hm
                subst hm
                replace H := H.dropAt 5 rfl; simp only [List.eraseIdx_cons_succ, List.eraseIdx_cons_zero] at H
                replace H := H.dropAt 4 rfl; simp only [List.eraseIdx_cons_succ, List.eraseIdx_cons_zero] at H
                replace H := H.dropAt 3 rfl; simp only [List.eraseIdx_cons_succ, List.eraseIdx_cons_zero] at H
                replace H := H.dropAt 2 rfl; simp only [List.eraseIdx_cons_succ, List.eraseIdx_cons_zero] at H
                replace H := H.dropAt 1 rfl; simp only [List.eraseIdx_cons_succ, List.eraseIdx_cons_zero] at H
                replace H := H.dropAt 0 rfl; simp only [List.eraseIdx_cons_succ, List.eraseIdx_cons_zero] at H
                replace H := H.forget hS
                exact ret1 rfl (rv_tmp rfl) rfl ⟨rfl, H⟩
              · have hc4 := hc
                clear hc
                replace hq9 := ifF hc4 hq9
                refine wp_skip ?_
                refine then_norm ?_
                refine wp_seq ?_
                refine wp_region_lit ?_
                apply seq_op (V := .pointer (some ⟨b11, 0, none⟩)) rfl
                · intro Φ hΦ; refine O_fld rfl Try.underlying35 rfl (Try.sizeOf3 _) rfl ?_; exact hΦ
                (try simp only [Act.put, List.setIfInBounds_toArray, List.set_cons_succ, List.set_cons_zero])
                apply seq_op (V := .int .i64 x9.kind) rfl
                · intro Φ hΦ; refine L_1 4 _ _ rfl (Try.isAgg3 _) rfl H rfl rfl ?_; exact hΦ
                (try simp only [Act.put, List.setIfInBounds_toArray, List.set_cons_succ, List.set_cons_zero])
                apply seq_op (V := .bool (x9.kind == 1)) rfl
                · intro Φ hΦ; refine O_bin rfl rfl rfl eqg_int r_eql ?_; exact hΦ
                (try simp only [Act.put, List.setIfInBounds_toArray, List.set_cons_succ, List.set_cons_zero])
                apply seq_op (V := .bool (x9.kind == 1)) rfl
                · intro Φ hΦ; refine O_mv rfl rfl ?_; exact hΦ
                (try simp only [Act.put, List.setIfInBounds_toArray, List.set_cons_succ, List.set_cons_zero])
                refine seq_opg (c := (!(x9.kind == 1))) (V := .pointer (some ⟨b11, 0, none⟩)) (by first | exact wanted_f rfl rfl rfl | exact wanted_vf rfl rfl rfl) ?_ ?_
                · intro hc Φ hΦ; refine O_fld rfl Try.underlying35 rfl (Try.sizeOf3 _) rfl ?_; exact hΦ
                (try simp only [Act.put, List.setIfInBounds_toArray, List.set_cons_succ, List.set_cons_zero])
                refine seq_opg (c := (!(x9.kind == 1))) (V := .int .i64 x9.kind) (by first | exact wanted_f rfl rfl rfl | exact wanted_vf rfl rfl rfl) ?_ ?_
                · intro hc Φ hΦ; (repeat (first | rw [vg_of hc] | rw [vg_of (and_l hc)] | rw [vg_of (and_l (and_l hc))] | rw [vg_of (and_l (and_l (and_l hc)))] | rw [vg_and hc])); refine L_1 4 _ _ rfl (Try.isAgg3 _) rfl H rfl rfl ?_; exact hΦ
                (try simp only [Act.put, List.setIfInBounds_toArray, List.set_cons_succ, List.set_cons_zero])
                refine seq_opg (c := (!(x9.kind == 1))) (V := .bool (x9.kind == 3)) (by first | exact wanted_f rfl rfl rfl | exact wanted_vf rfl rfl rfl) ?_ ?_
                · intro hc Φ hΦ; (repeat (first | rw [vg_of hc] | rw [vg_of (and_l hc)] | rw [vg_of (and_l (and_l hc))] | rw [vg_of (and_l (and_l (and_l hc)))] | rw [vg_and hc])); refine O_bin rfl rfl rfl eqg_int r_eql ?_; exact hΦ
                (try simp only [Act.put, List.setIfInBounds_toArray, List.set_cons_succ, List.set_cons_zero])
                apply seq_op (V := .bool ((x9.kind == 1) || (x9.kind == 3))) rfl
                · intro Φ hΦ; refine G_or _ _ _ rfl rfl rfl rfl ?_; exact hΦ
                (try simp only [Act.put, List.setIfInBounds_toArray, List.set_cons_succ, List.set_cons_zero])
                apply seq_op (V := .bool ((x9.kind == 1) || (x9.kind == 3))) rfl
                · intro Φ hΦ; refine O_as rfl rfl ?_; exact hΦ
                (try simp only [Act.put, List.setIfInBounds_toArray, List.set_cons_succ, List.set_cons_zero])
                refine list_end ?_
                refine then_norm ?_
                refine wp_seq ?_
                refine wp_region_lit ?_
                apply seq_op (V := .bool ((x9.kind == 1) || (x9.kind == 3))) rfl
                · intro Φ hΦ; refine O_mv rfl rfl ?_; exact hΦ
                (try simp only [Act.put, List.setIfInBounds_toArray, List.set_cons_succ, List.set_cons_zero])
                apply seq_op (V := .slice Ar100 (table_Table_Writers_f u1 x9.key x9.value).length cr100) rfl
                · intro Φ hΦ; refine O_mv rfl rfl ?_; exact hΦ
                (try simp only [Act.put, List.setIfInBounds_toArray, List.set_cons_succ, List.set_cons_zero])
                apply seq_op (V := .int .i64 (k6 : Int)) rfl
                · intro Φ hΦ; refine O_mv rfl rfl ?_; exact hΦ
                (try simp only [Act.put, List.setIfInBounds_toArray, List.set_cons_succ, List.set_cons_zero])
                apply seq_op (V := .int .i64 (k9 : Int)) rfl
                · intro Φ hΦ; refine O_mv rfl rfl ?_; exact hΦ
                (try simp only [Act.put, List.setIfInBounds_toArray, List.set_cons_succ, List.set_cons_zero])
                apply seq_op (V := .agg #[.int .i64 (k6 : Int), .int .i64 (k9 : Int)]) rfl
                · intro Φ hΦ; refine O_bld (cs := [.int .i64 (k6 : Int), .int .i64 (k9 : Int)]) rfl (by kernel_rfl) ?_; exact hΦ
                (try simp only [Act.put, List.setIfInBounds_toArray, List.set_cons_succ, List.set_cons_zero])
                refine seq_call rfl (fun Φ hΦ => by refine O_call2 rfl Try.func31 rfl rfl rfl rfl hΦ) (slices_Contains_Write_w (a0 := (table_Table_Writers_f u1 x9.key x9.value)) (h_p0 := hf5) (a1 := (⟨(k6 : Int), (k9 : Int)⟩ : Wr)) (H := H)) ?_
                clear H
                rintro e w1 ⟨rfl, H⟩; refine ⟨_, rfl, ?_⟩
                (try simp only [Act.put, List.setIfInBounds_toArray, List.set_cons_succ, List.set_cons_zero])
                apply seq_op (V := .bool (!(((x9.kind == 1) || (x9.kind == 3)) == (slices_Contains_Write_f (table_Table_Writers_f u1 x9.key x9.value) (⟨(k6 : Int), (k9 : Int)⟩ : Wr))))) rfl
                · intro Φ hΦ; refine O_bin rfl rfl rfl eqg_bool (r_bne Try.underlying4) ?_; exact hΦ
                (try simp only [Act.put, List.setIfInBounds_toArray, List.set_cons_succ, List.set_cons_zero])
                refine list_end ?_
                refine then_norm ?_
                refine wp_cond_split rfl (fun hc => ?_) (fun hc => ?_)
                · have hc5 := hc
                  clear hc
                  replace hq9 := ifT hc5 hq9
                  refine wp_seq ?_
                  refine wp_region_lit ?_
                  apply seq_op (V := .bool false) rfl
                  · intro Φ hΦ; refine O_as rfl rfl ?_; exact hΦ
                  (try simp only [Act.put, List.setIfInBounds_toArray, List.set_cons_succ, List.set_cons_zero])
                  refine list_end ?_
                  refine then_norm ?_
                  refine wp_ret ?_
                  refine block_ret ?_
                  refine then_ret ?_
                  refine then_ret ?_
                  refine block_ret ?_
                  refine block_ret ?_
                  refine then_ret ?_
                  refine then_ret ?_
                  refine block_ret ?_
                  refine then_ret ?_
                  have hq9 := Option.some.inj hq9
                  subst hq9
                  (try dsimp only at hq6)
                  have hq6 := Option.some.inj hq6
                  subst hq6
                  (try dsimp only at hm)
                  have hm := Option.some.inj hm
                  subst hm
                  replace H := H.dropAt 5 rfl; simp only [List.eraseIdx_cons_succ, List.eraseIdx_cons_zero] at H
                  replace H := H.dropAt 4 rfl; simp only [List.eraseIdx_cons_succ, List.eraseIdx_cons_zero] at H
                  replace H := H.dropAt 3 rfl; simp only [List.eraseIdx_cons_succ, List.eraseIdx_cons_zero] at H
                  replace H := H.dropAt 2 rfl; simp only [List.eraseIdx_cons_succ, List.eraseIdx_cons_zero] at H
                  replace H := H.dropAt 1 rfl; simp only [List.eraseIdx_cons_succ, List.eraseIdx_cons_zero] at H
                  replace H := H.dropAt 0 rfl; simp only [List.eraseIdx_cons_succ, List.eraseIdx_cons_zero] at H
                  replace H := H.forget hS
                  exact ret1 rfl (rv_tmp rfl) rfl ⟨rfl, H⟩
                · have hc5 := hc
                  clear hc
                  replace hq9 := ifF hc5 hq9
                  refine wp_skip ?_
                  refine block_norm ?_
                  refine then_norm ?_
                  refine wp_region_lit ?_
                  apply seq_op (V := .int .i64 (IntKind.i64.wrap ((k9 : Int) + 1))) rfl
                  · intro Φ hΦ; refine O_bin rfl rfl rfl eqg_int r_add ?_; exact hΦ
                  (try simp only [Act.put, List.setIfInBounds_toArray, List.set_cons_succ, List.set_cons_zero])
                  apply seq_op (V := .int .i64 (IntKind.i64.wrap ((k9 : Int) + 1))) rfl
                  · intro Φ hΦ; refine O_mv rfl rfl ?_; exact hΦ
                  (try simp only [Act.put, List.setIfInBounds_toArray, List.set_cons_succ, List.set_cons_zero])
                  refine list_end ?_
                  refine then_norm ?_
                  replace H := H.front 3 rfl; simp only [List.eraseIdx_cons_succ, List.eraseIdx_cons_zero] at H
                  replace H := H.front 3 rfl; simp only [List.eraseIdx_cons_succ, List.eraseIdx_cons_zero] at H
                  replace H := H.front 3 rfl; simp only [List.eraseIdx_cons_succ, List.eraseIdx_cons_zero] at H
                  replace H := H.front 3 rfl; simp only [List.eraseIdx_cons_succ, List.eraseIdx_cons_zero] at H
                  replace H := H.front 5 rfl; simp only [List.eraseIdx_cons_succ, List.eraseIdx_cons_zero] at H
                  replace H := H.dropAt 5 rfl; simp only [List.eraseIdx_cons_succ, List.eraseIdx_cons_zero] at H
                  refine ⟨⟨⟨rfl, rfl, rfl, rfl, rfl, rfl, rfl, rfl, rfl, rfl, rfl, rfl, rfl, rfl, rfl, rfl, rfl, rfl, rfl, rfl, rfl, rfl, rfl, rfl, rfl, rfl, rfl, rfl, rfl, rfl, rfl, rfl, rfl, rfl, rfl, rfl, rfl, rfl, rfl, rfl, rfl, rfl⟩, rfl⟩, ⟨k9 + 1, _, s8, hs9, hd9'', wrap_succ hl9 hn9, hq9, H⟩, ?_⟩
                  exact meas_succ hl9 hn9
            · have hc3 := hc
              clear hc
              obtain rfl := rng_f hd9 hc3
              rw [assayerlaw04_TableWriters_l9] at hq9
              refine wp_exit ?_
              refine then_exit ?_
              refine then_exit ?_
              have hq9 := Option.some.inj hq9
              subst hq9
              (try dsimp only at hq6)
              refine block_exit ?_
              refine block_norm ?_
              refine then_norm ?_
              refine wp_region_lit ?_
              apply seq_op (V := .int .i64 (IntKind.i64.wrap ((k6 : Int) + 1))) rfl
              · intro Φ hΦ; refine O_bin rfl rfl rfl eqg_int r_add ?_; exact hΦ
              (try simp only [Act.put, List.setIfInBounds_toArray, List.set_cons_succ, List.set_cons_zero])
              apply seq_op (V := .int .i64 (IntKind.i64.wrap ((k6 : Int) + 1))) rfl
              · intro Φ hΦ; refine O_mv rfl rfl ?_; exact hΦ
              (try simp only [Act.put, List.setIfInBounds_toArray, List.set_cons_succ, List.set_cons_zero])
              refine list_end ?_
              refine then_norm ?_
              replace H := H.drop
              refine ⟨⟨⟨rfl, rfl, rfl, rfl, rfl, rfl, rfl, rfl, rfl, rfl, rfl, rfl, rfl, rfl, rfl, rfl, rfl, rfl, rfl, rfl, rfl, rfl, rfl, rfl, rfl, rfl, rfl, rfl, rfl, rfl, rfl⟩, rfl⟩, ⟨k6 + 1, _, sL9, hs6, hd6'', wrap_succ hl6 hn6, hq6, H⟩, ?_⟩
              exact meas_succ hl6 hn6
        · have hc2 := hc
          clear hc
          obtain rfl := rng_f hd6 hc2
          rw [assayerlaw04_TableWriters_l6] at hq6
          refine wp_exit ?_
          refine then_exit ?_
          refine then_exit ?_
          have hq6 := Option.some.inj hq6
          subst hq6
          (try dsimp only at hm)
          refine block_exit ?_
          refine then_norm ?_
          refine wp_seq ?_
          refine wp_region_lit ?_
          apply seq_op (V := .bool true) rfl
          · intro Φ hΦ; refine O_as rfl rfl ?_; exact hΦ
          (try simp only [Act.put, List.setIfInBounds_toArray, List.set_cons_succ, List.set_cons_zero])
          refine list_end ?_
          refine then_norm ?_
          refine wp_ret ?_
          have hm := Option.some.inj hm
          subst hm
          replace H := H.dropAt 3 rfl; simp only [List.eraseIdx_cons_succ, List.eraseIdx_cons_zero] at H
          replace H := H.dropAt 2 rfl; simp only [List.eraseIdx_cons_succ, List.eraseIdx_cons_zero] at H
          replace H := H.dropAt 1 rfl; simp only [List.eraseIdx_cons_succ, List.eraseIdx_cons_zero] at H
          replace H := H.dropAt 0 rfl; simp only [List.eraseIdx_cons_succ, List.eraseIdx_cons_zero] at H
          replace H := H.forget hS
          exact ret1 rfl (rv_tmp rfl) rfl ⟨rfl, H⟩
def table_Table_Txn_f (a0 : Tbl) (a1 : Int) : Option Txn := if ((decide (a1 < 0)) || (decide (a1 ≥ (table_Table_Count_f a0)))) = true then (some (⟨0, 0, 0, 0, []⟩ : Txn)) else ((rdI a0.l a1).bind fun u1 => (table_copied_f u1).bind fun u2 => some u2)

set_option maxHeartbeats 4000000 in
theorem table_Table_Txn_w {E : World} {s : SH} {L : List HP} {w : World} {a0 : Tbl} {a1 : Int} {A_p0_l : Option Addr} {c_p0_l : Nat} (h_p0_l : kT.Sl s (.slice A_p0_l a0.l.length c_p0_l) a0.l) {r_p0_kinds : Nat} (h_p0_kinds : MapKF kcS vcI s r_p0_kinds a0.kinds) {r_p0_writers : Nat} (h_p0_writers : MapKO kcP kWr s r_p0_writers a0.writers) {b_p0 o_p0 : Nat} (hC_p0 : Cells s ⟨b_p0, o_p0, none⟩ [.slice A_p0_l a0.l.length c_p0_l, .map (some r_p0_kinds), .map (some r_p0_writers), .bool a0.made]) {R : Txn} (hm : table_Table_Txn_f a0 a1 = some R) (H : Holds E s (L) w) :
    Calls Try.prog 58 #[.pointer (some ⟨b_p0, o_p0, none⟩), .int .i64 a1] w fun e w' => ∃ A0_4 c0_4 n0_4 s', e = .returned (.agg #[.int .i64 R.proc, .int .i64 R.state, .int .i64 R.from_, .int .i64 R.to, .slice A0_4 n0_4 c0_4]) ∧ Sub s s' ∧ kOp.Sl s' (.slice A0_4 n0_4 c0_4) R.ops ∧ Kin.inI64 R.proc ∧ Kin.inI64 R.state ∧ Kin.inI64 R.from_ ∧ Kin.inI64 R.to ∧ Holds E s' (L) w' := by
  unfold table_Table_Txn_f at hm
  go_enter Try.func58, Try.ntmps58
  refine wp_seq ?_
  refine wp_region_lit ?_
  refine OpG.list rfl ?_; refine G_alloc 30 rfl (Try.zeroValue30 _) H ?_; clear H; intro b4 w1 H; (try simp only [Value.cells] at H)
  (try simp only [Act.put, List.setIfInBounds_toArray, List.set_cons_succ, List.set_cons_zero])
  refine list_end ?_
  refine then_norm ?_
  refine wp_seq ?_
  refine wp_seq ?_
  refine wp_region_lit ?_
  apply seq_op (V := .int .i64 a1) rfl
  · intro Φ hΦ; refine O_mv rfl rfl ?_; exact hΦ
  (try simp only [Act.put, List.setIfInBounds_toArray, List.set_cons_succ, List.set_cons_zero])
  apply seq_op (V := .bool (decide (a1 < 0))) rfl
  · intro Φ hΦ; refine O_bin rfl rfl rfl eqg_int r_lss ?_; exact hΦ
  (try simp only [Act.put, List.setIfInBounds_toArray, List.set_cons_succ, List.set_cons_zero])
  apply seq_op (V := .bool (decide (a1 < 0))) rfl
  · intro Φ hΦ; refine O_mv rfl rfl ?_; exact hΦ
  (try simp only [Act.put, List.setIfInBounds_toArray, List.set_cons_succ, List.set_cons_zero])
  refine seq_opg (c := (!(decide (a1 < 0)))) (V := .int .i64 a1) (by first | exact wanted_f rfl rfl rfl | exact wanted_vf rfl rfl rfl) ?_ ?_
  · intro hc Φ hΦ; refine O_mv rfl rfl ?_; exact hΦ
  (try simp only [Act.put, List.setIfInBounds_toArray, List.set_cons_succ, List.set_cons_zero])
  refine seq_opg (c := (!(decide (a1 < 0)))) (V := .pointer (some ⟨b_p0, o_p0, none⟩)) (by first | exact wanted_f rfl rfl rfl | exact wanted_vf rfl rfl rfl) ?_ ?_
  · intro hc Φ hΦ; refine O_mv rfl rfl ?_; exact hΦ
  (try simp only [Act.put, List.setIfInBounds_toArray, List.set_cons_succ, List.set_cons_zero])
  refine seq_opgH (c := (!(decide (a1 < 0)))) (V := .int .i64 (table_Table_Count_f a0)) H (by first | exact wanted_f rfl rfl rfl | exact wanted_vf rfl rfl rfl) ?_ ?_
  · intro hc Φ hΦ; (repeat (first | rw [vg_of hc] | rw [vg_of (and_l hc)] | rw [vg_of (and_l (and_l hc))] | rw [vg_of (and_l (and_l (and_l hc)))] | rw [vg_and hc])); refine O_call1 rfl Try.func22 rfl rfl rfl ?_; refine (table_Table_Count_w (a0 := a0) (hC_p0 := hC_p0) (h_p0_l := h_p0_l) (h_p0_kinds := h_p0_kinds) (h_p0_writers := h_p0_writers) (H := H)).mono ?_; rintro e w2 ⟨rfl, H⟩; exact ⟨_, rfl, hΦ _ H⟩
  clear H; intro w1 H
  (try simp only [Act.put, List.setIfInBounds_toArray, List.set_cons_succ, List.set_cons_zero])
  refine seq_opg (c := (!(decide (a1 < 0)))) (V := .bool (decide (a1 ≥ (table_Table_Count_f a0)))) (by first | exact wanted_f rfl rfl rfl | exact wanted_vf rfl rfl rfl) ?_ ?_
  · intro hc Φ hΦ; (repeat (first | rw [vg_of hc] | rw [vg_of (and_l hc)] | rw [vg_of (and_l (and_l hc))] | rw [vg_of (and_l (and_l (and_l hc)))] | rw [vg_and hc])); refine O_bin rfl rfl rfl eqg_int r_geq ?_; exact hΦ
  (try simp only [Act.put, List.setIfInBounds_toArray, List.set_cons_succ, List.set_cons_zero])
  apply seq_op (V := .bool ((decide (a1 < 0)) || (decide (a1 ≥ (table_Table_Count_f a0))))) rfl
  · intro Φ hΦ; refine G_or _ _ _ rfl rfl rfl rfl ?_; exact hΦ
  (try simp only [Act.put, List.setIfInBounds_toArray, List.set_cons_succ, List.set_cons_zero])
  refine list_end ?_
  refine then_norm ?_
  refine wp_cond_split rfl (fun hc => ?_) (fun hc => ?_)
  · have hc1 := hc
    clear hc
    replace hm := ifT hc1 hm
    refine wp_seq ?_
    refine wp_region_lit ?_
    apply seq_op (V := .agg #[.int .i64 0, .int .i64 0, .int .i64 0, .int .i64 0, .slice none 0 0]) rfl
    · intro Φ hΦ; refine O_bld (cs := [.int .i64 0, .int .i64 0, .int .i64 0, .int .i64 0, .slice none 0 0]) rfl (by kernel_rfl) ?_; exact hΦ
    (try simp only [Act.put, List.setIfInBounds_toArray, List.set_cons_succ, List.set_cons_zero])
    refine OpG.list rfl ?_; refine G_setNi 0 (c := [.int .i64 0, .int .i64 0, .int .i64 0, .int .i64 0, .slice none 0 0]) _ _ _ rfl (Try.sizeOf30 _) rfl rfl (by simp [Value.oneCell']) H rfl rfl ?_; clear H; intro w1 H; simp only [List.set_cons_succ, List.set_cons_zero] at H
    (try simp only [Act.put, List.setIfInBounds_toArray, List.set_cons_succ, List.set_cons_zero])
    refine list_end ?_
    refine then_norm ?_
    refine wp_ret ?_
    refine then_ret ?_
    have hm := Option.some.inj hm
    subst hm
    have Hc := H
    replace H := H.dropAt 0 rfl; simp only [List.eraseIdx_cons_succ, List.eraseIdx_cons_zero] at H
    exact ret1 rfl (rv_cellN 0 Hc rfl rfl (Try.isAgg30 _) (Try.sizeOf30 _)) rfl ⟨none, 0, 0, s, rfl, Sub.refl _, Kin.Sl.nil, (by constructor <;> decide : Kin.inI64 0), (by constructor <;> decide : Kin.inI64 0), (by constructor <;> decide : Kin.inI64 0), (by constructor <;> decide : Kin.inI64 0), H⟩
  · have hc1 := hc
    clear hc
    replace hm := ifF hc1 hm
    refine wp_skip ?_
    refine then_norm ?_
    refine wp_seq ?_
    obtain ⟨u1, gx1, hm⟩ := bs hm
    obtain ⟨kk1, gk1, gl1, gd1⟩ := rdI_some gx1
    obtain ⟨be1, oe1, A4e1, c4e1, rfl, hCe1, h0e1, h1e1, h2e1, h3e1, h4e1⟩ := kT_el h_p0_l gd1
    obtain ⟨u2, gx2, hm⟩ := bs hm
    refine wp_region_lit ?_
    apply seq_op (V := .pointer (some ⟨b_p0, o_p0, none⟩)) rfl
    · intro Φ hΦ; refine O_mv rfl rfl ?_; exact hΦ
    (try simp only [Act.put, List.setIfInBounds_toArray, List.set_cons_succ, List.set_cons_zero])
    apply seq_op (V := .pointer (some ⟨b_p0, o_p0, none⟩)) rfl
    · intro Φ hΦ; refine O_nil rfl rfl ?_; exact hΦ
    (try simp only [Act.put, List.setIfInBounds_toArray, List.set_cons_succ, List.set_cons_zero])
    apply seq_op (V := .pointer (some ⟨b_p0, o_p0, none⟩)) rfl
    · intro Φ hΦ; refine O_fld rfl Try.underlying98 rfl (Try.sizeOf22 _) rfl ?_; exact hΦ
    (try simp only [Act.put, List.setIfInBounds_toArray, List.set_cons_succ, List.set_cons_zero])
    apply seq_op (V := .slice (some ⟨be1, oe1, none⟩) a0.l.length c_p0_l) rfl
    · intro Φ hΦ; refine G_s1 _ _ rfl (Try.isAgg22 _) rfl H hC_p0 0 rfl rfl ?_; exact hΦ
    (try simp only [Act.put, List.setIfInBounds_toArray, List.set_cons_succ, List.set_cons_zero])
    apply seq_op (V := .int .i64 a1) rfl
    · intro Φ hΦ; refine O_mv rfl rfl ?_; exact hΦ
    (try simp only [Act.put, List.setIfInBounds_toArray, List.set_cons_succ, List.set_cons_zero])
    apply seq_op (V := .pointer (some ⟨be1, oe1 + kk1 * 5, none⟩)) rfl
    · intro Φ hΦ; refine O_ix rfl Try.underlying22 (Try.sizeOf30 _) rfl rfl gk1 gl1 ?_; exact hΦ
    (try simp only [Act.put, List.setIfInBounds_toArray, List.set_cons_succ, List.set_cons_zero])
    apply seq_op (V := .agg #[.int .i64 u1.proc, .int .i64 u1.state, .int .i64 u1.from_, .int .i64 u1.to, .slice A4e1 u1.ops.length c4e1]) rfl
    · intro Φ hΦ; refine G_sN _ _ rfl (Try.isAgg30 _) rfl H hCe1 (Try.sizeOf30 _) ?_; exact hΦ
    (try simp only [Act.put, List.setIfInBounds_toArray, List.set_cons_succ, List.set_cons_zero])
    refine seq_call rfl (fun Φ hΦ => by refine O_call1 rfl Try.func60 rfl rfl rfl hΦ) (table_copied_w (a0 := u1) (hr_p0_proc := h0e1) (hr_p0_state := h1e1) (hr_p0_from_ := h2e1) (hr_p0_to := h3e1) (h_p0_ops := h4e1) (hm := gx2) (H := H)) ?_
    clear H
    rintro e w1 ⟨Ar10_4, cr10_4, nr10_4, s1, rfl, hs', hr10_4, hrr10_0, hrr10_1, hrr10_2, hrr10_3, H⟩; refine ⟨_, rfl, ?_⟩
    obtain rfl := sl_n hr10_4
    replace h_p0_l := h_p0_l.mono hs'
    replace h_p0_kinds := h_p0_kinds.mono hs'
    replace h_p0_writers := h_p0_writers.mono hs'
    replace hC_p0 := hC_p0.mono hs'
    replace hCe1 := hCe1.mono hs'
    replace h4e1 := h4e1.mono hs'
    have hS := hs'
    (try simp only [Act.put, List.setIfInBounds_toArray, List.set_cons_succ, List.set_cons_zero])
    refine OpG.list rfl ?_; refine G_setNi 0 (c := [.int .i64 u2.proc, .int .i64 u2.state, .int .i64 u2.from_, .int .i64 u2.to, .slice Ar10_4 u2.ops.length cr10_4]) _ _ _ rfl (Try.sizeOf30 _) rfl rfl (by simp [Value.oneCell']) H rfl rfl ?_; clear H; intro w1 H; simp only [List.set_cons_succ, List.set_cons_zero] at H
    (try simp only [Act.put, List.setIfInBounds_toArray, List.set_cons_succ, List.set_cons_zero])
    refine list_end ?_
    refine then_norm ?_
    refine wp_ret ?_
    have hm := Option.some.inj hm
    subst hm
    have Hc := H
    replace H := H.dropAt 0 rfl; simp only [List.eraseIdx_cons_succ, List.eraseIdx_cons_zero] at H
    exact ret1 rfl (rv_cellN 0 Hc rfl rfl (Try.isAgg30 _) (Try.sizeOf30 _)) rfl ⟨Ar10_4, cr10_4, u2.ops.length, s1, rfl, hS, hr10_4, hrr10_0, hrr10_1, hrr10_2, hrr10_3, H⟩
def table_Table_Final_1_f (a0 : Op') (a1 : List Op') (a2 : Wr) : Option Bool := if (table_writes_f a0) = true then ((rdI a1 a2.op).bind fun u1 => some (a0.key.toList == u1.key.toList)) else (some false)

set_option maxHeartbeats 4000000 in
theorem table_Table_Final_1_w {E : World} {s : SH} {L : List HP} {w : World} {a0 : Op'} {a1 : List Op'} {a2 : Wr} {A_p0_list : Option Addr} {c_p0_list : Nat} (h_p0_list : kI.Sl s (.slice A_p0_list a0.list.length c_p0_list) a0.list) {A_p1 : Option Addr} {c_p1 : Nat} (h_p1 : kOp.Sl s (.slice A_p1 a1.length c_p1) a1) {b_p1 o_p1 : Nat} (hC_p1 : Cells s ⟨b_p1, o_p1, none⟩ [.slice A_p1 a1.length c_p1]) {b_p2 o_p2 : Nat} (hC_p2 : Cells s ⟨b_p2, o_p2, none⟩ [.int .i64 a2.txn, .int .i64 a2.op]) {R : Bool} (hm : table_Table_Final_1_f a0 a1 a2 = some R) (H : Holds E s (L) w) :
    Calls Try.prog 64 #[.agg #[.int .i64 a0.kind, .string a0.key, .int .i64 a0.value, .slice A_p0_list a0.list.length c_p0_list, .bool a0.has, .bool a0.isNil], .pointer (some ⟨b_p1, o_p1, none⟩), .pointer (some ⟨b_p2, o_p2, none⟩)] w fun e w' => e = .returned (.bool R) ∧ Holds E s (L) w' := by
  unfold table_Table_Final_1_f at hm
  go_enter Try.func64, Try.ntmps64
  refine wp_seq ?_
  refine wp_region_lit ?_
  refine OpG.list rfl ?_; refine B_x 35 _ rfl (v := .agg #[.int .i64 a0.kind, .string a0.key, .int .i64 a0.value, .slice A_p0_list a0.list.length c_p0_list, .bool a0.has, .bool a0.isNil]) rfl H ?_; clear H; intro b3 w1 H; (try simp only [Value.cells] at H)
  (try simp only [Act.put, List.setIfInBounds_toArray, List.set_cons_succ, List.set_cons_zero])
  apply seq_op (V := .bool false) rfl
  · intro Φ hΦ; refine O_as rfl rfl ?_; exact hΦ
  (try simp only [Act.put, List.setIfInBounds_toArray, List.set_cons_succ, List.set_cons_zero])
  refine list_end ?_
  refine then_norm ?_
  refine wp_seq ?_
  rcases Bool.eq_false_or_eq_true (table_writes_f a0) with hg1 | hg1
  · replace hm := ifT hg1 hm
    obtain ⟨u1, gx1, hm⟩ := bs hm
    obtain ⟨kk1, gk1, gl1, gd1⟩ := rdI_some gx1
    obtain ⟨be1, oe1, A3e1, c3e1, rfl, hCe1, h0e1, h1e1, h2e1, h3e1⟩ := kOp_el h_p1 gd1
    refine wp_draw_obO (k := 13) (sz := 18) (List.replicate 13 13) (fun _ => []) mixed (by simp) rfl (by kernel_rfl) (by kernel_rfl) (by kernel_rfl) H (by simp only [List.take_succ_cons, List.take_zero]; exact rfl) (by simp only [List.drop_succ_cons, List.drop_zero]; exact rfl)
      (fun y => by simp only [ov, Act.put, List.setIfInBounds_toArray, List.set_cons_succ, List.set_cons_zero, Nat.zero_add, Nat.reduceAdd]; exact rfl) ?_
    apply ObO.valw (V := .agg #[.int .i64 a0.kind, .string a0.key, .int .i64 a0.value, .slice A_p0_list a0.list.length c_p0_list, .bool a0.has, .bool a0.isNil])
    · intro x; rfl
    · intro s' w' y Φ R hs H hG hΦ; refine wantG rfl ?_; refine G_pNi 0 _ _ rfl (Try.isAgg35 _) rfl H rfl (Try.sizeOf35 _) ?_; exact hΦ _ _ (Sub.refl _) H
    apply ObO.valw (V := .bool (table_writes_f a0))
    · intro x; rfl
    · intro s' w' y Φ R hs H hG hΦ; simp only [List.nil_append, List.cons_append] at hG; have e0 : y 0 = _ := dh_get hG 0 rfl (by kernel_rfl); simp only [e0]; refine wantG rfl ?_; refine O_call1 rfl Try.func61 rfl rfl rfl ?_; refine (table_writes_w (a0 := a0) (h_p0_list := (h_p0_list.mono hs)) (H := H)).mono ?_; rintro e w2 ⟨rfl, H⟩; exact ⟨_, rfl, hΦ _ _ (Sub.refl _) H⟩
    apply ObO.valw (V := .bool (table_writes_f a0))
    · intro x; rfl
    · intro s' w' y Φ R hs H hG hΦ; simp only [List.nil_append, List.cons_append] at hG; have e1 : y 1 = _ := dh_get hG 1 rfl (by kernel_rfl); simp only [e1]; refine wantG rfl ?_; refine O_mv rfl rfl ?_; exact hΦ _ _ (Sub.refl _) H
    apply ObO.valw (V := .pointer (some ⟨b3, 1, none⟩))
    · intro x; rfl
    · intro s' w' y Φ R hs H hG hΦ; simp only [List.nil_append, List.cons_append] at hG; have eg : y 2 = _ := dh_get hG 2 rfl (by kernel_rfl); simp only [eg]; refine wantK ((wanted_t rfl rfl rfl).trans hg1) ?_; refine O_fld rfl Try.underlying35 rfl (Try.sizeOf9 _) rfl ?_; exact hΦ _ _ (Sub.refl _) H
    apply ObO.valw (V := .string a0.key)
    · intro x; rfl
    · intro s' w' y Φ R hs H hG hΦ; simp only [List.nil_append, List.cons_append] at hG; have e3 : y 3 = _ := dh_get hG 3 rfl (by kernel_rfl); have eg : y 2 = _ := dh_get hG 2 rfl (by kernel_rfl); simp only [eg, e3]; refine wantK ((wanted_t rfl rfl rfl).trans hg1) ?_; refine L_1 0 _ _ rfl (Try.isAgg9 _) rfl H rfl rfl ?_; exact hΦ _ _ (Sub.refl _) H
    apply ObO.valw (V := .slice (some ⟨be1, oe1, none⟩) a1.length c_p1)
    · intro x; rfl
    · intro s' w' y Φ R hs H hG hΦ; simp only [List.nil_append, List.cons_append] at hG; have eg : y 2 = _ := dh_get hG 2 rfl (by kernel_rfl); simp only [eg]; refine wantK ((wanted_t rfl rfl rfl).trans hg1) ?_; refine G_s1 _ _ rfl (Try.isAgg28 _) rfl H (hC_p1.mono hs) 0 rfl rfl ?_; exact hΦ _ _ (Sub.refl _) H
    apply ObO.valw (V := .pointer (some ⟨b_p2, o_p2 + 1, none⟩))
    · intro x; rfl
    · intro s' w' y Φ R hs H hG hΦ; simp only [List.nil_append, List.cons_append] at hG; have eg : y 2 = _ := dh_get hG 2 rfl (by kernel_rfl); simp only [eg]; refine wantK ((wanted_t rfl rfl rfl).trans hg1) ?_; refine O_fld rfl Try.underlying41 rfl (Try.sizeOf3 _) rfl ?_; exact hΦ _ _ (Sub.refl _) H
    apply ObO.valw (V := .int .i64 a2.op)
    · intro x; rfl
    · intro s' w' y Φ R hs H hG hΦ; simp only [List.nil_append, List.cons_append] at hG; have e6 : y 6 = _ := dh_get hG 6 rfl (by kernel_rfl); have eg : y 2 = _ := dh_get hG 2 rfl (by kernel_rfl); simp only [eg, e6]; refine wantK ((wanted_t rfl rfl rfl).trans hg1) ?_; refine G_s1 _ _ rfl (Try.isAgg3 _) rfl H (hC_p2.mono hs) 1 rfl rfl ?_; exact hΦ _ _ (Sub.refl _) H
    apply ObO.valw (V := .pointer (some ⟨be1, oe1 + kk1 * 6, none⟩))
    · intro x; rfl
    · intro s' w' y Φ R hs H hG hΦ; simp only [List.nil_append, List.cons_append] at hG; have e5 : y 5 = _ := dh_get hG 5 rfl (by kernel_rfl); have e7 : y 7 = _ := dh_get hG 7 rfl (by kernel_rfl); have eg : y 2 = _ := dh_get hG 2 rfl (by kernel_rfl); simp only [eg, e5, e7]; refine wantK ((wanted_t rfl rfl rfl).trans hg1) ?_; refine O_ix rfl Try.underlying28 (Try.sizeOf35 _) rfl rfl gk1 gl1 ?_; exact hΦ _ _ (Sub.refl _) H
    apply ObO.valw (V := .pointer (some ⟨be1, oe1 + kk1 * 6 + 1, none⟩))
    · intro x; rfl
    · intro s' w' y Φ R hs H hG hΦ; simp only [List.nil_append, List.cons_append] at hG; have e8 : y 8 = _ := dh_get hG 8 rfl (by kernel_rfl); have eg : y 2 = _ := dh_get hG 2 rfl (by kernel_rfl); simp only [eg, e8]; refine wantK ((wanted_t rfl rfl rfl).trans hg1) ?_; refine O_fld rfl Try.underlying35 rfl (Try.sizeOf9 _) rfl ?_; exact hΦ _ _ (Sub.refl _) H
    apply ObO.valw (V := .string u1.key)
    · intro x; rfl
    · intro s' w' y Φ R hs H hG hΦ; simp only [List.nil_append, List.cons_append] at hG; have e9 : y 9 = _ := dh_get hG 9 rfl (by kernel_rfl); have eg : y 2 = _ := dh_get hG 2 rfl (by kernel_rfl); simp only [eg, e9]; refine wantK ((wanted_t rfl rfl rfl).trans hg1) ?_; refine G_s1 _ _ rfl (Try.isAgg9 _) rfl H (hCe1.mono hs) 1 rfl rfl ?_; exact hΦ _ _ (Sub.refl _) H
    apply ObO.valw (V := .bool (a0.key.toList == u1.key.toList))
    · intro x; rfl
    · intro s' w' y Φ R hs H hG hΦ; simp only [List.nil_append, List.cons_append] at hG; have e4 : y 4 = _ := dh_get hG 4 rfl (by kernel_rfl); have e10 : y 10 = _ := dh_get hG 10 rfl (by kernel_rfl); have eg : y 2 = _ := dh_get hG 2 rfl (by kernel_rfl); simp only [eg, e4, e10]; refine wantK ((wanted_t rfl rfl rfl).trans hg1) ?_; refine O_bin rfl rfl rfl eqg_str r_seq ?_; exact hΦ _ _ (Sub.refl _) H
    apply ObO.valw (V := .bool (a0.key.toList == u1.key.toList))
    · intro x; rfl
    · intro s' w' y Φ R hs H hG hΦ; simp only [List.nil_append, List.cons_append] at hG; have e2 : y 2 = _ := dh_get hG 2 rfl (by kernel_rfl); have e11 : y 11 = _ := dh_get hG 11 rfl (by kernel_rfl); simp only [e2, e11]; refine wantG rfl ?_; refine O_pickT rfl rfl hg1 rfl ?_; exact hΦ _ _ (Sub.refl _) H
    clear H
    intro s3 w3 yy hs3 H hG
    replace H := (show Holds _ _ ([] ++ _) _ from H); rw [List.nil_append] at H
    simp only [List.nil_append, List.cons_append] at hG
    have e0 : yy 0 = _ := gh_get hG 0 rfl
    have e1 : yy 1 = _ := gh_get hG 1 rfl
    have e2 : yy 2 = _ := gh_get hG 2 rfl
    have e3 : yy 3 = _ := gh_get hG 3 rfl
    have e4 : yy 4 = _ := gh_get hG 4 rfl
    have e5 : yy 5 = _ := gh_get hG 5 rfl
    have e6 : yy 6 = _ := gh_get hG 6 rfl
    have e7 : yy 7 = _ := gh_get hG 7 rfl
    have e8 : yy 8 = _ := gh_get hG 8 rfl
    have e9 : yy 9 = _ := gh_get hG 9 rfl
    have e10 : yy 10 = _ := gh_get hG 10 rfl
    have e11 : yy 11 = _ := gh_get hG 11 rfl
    have e12 : yy 12 = _ := gh_get hG 12 rfl
    simp only [e0, e1, e2, e3, e4, e5, e6, e7, e8, e9, e10, e11, e12]
    clear hG e0 e1 e2 e3 e4 e5 e6 e7 e8 e9 e10 e11 e12
    replace H := H.forget hs3; clear hs3
    apply seq_op (V := .bool (a0.key.toList == u1.key.toList)) rfl
    · intro Φ hΦ; refine O_as rfl rfl ?_; exact hΦ
    (try simp only [Act.put, List.setIfInBounds_toArray, List.set_cons_succ, List.set_cons_zero])
    refine list_end ?_
    refine then_norm ?_
    refine wp_ret ?_
    have hm := Option.some.inj hm
    subst hm
    replace H := H.dropAt 0 rfl; simp only [List.eraseIdx_cons_succ, List.eraseIdx_cons_zero] at H
    exact ret1 rfl (rv_tmp rfl) rfl ⟨rfl, H⟩
  · replace hm := ifF hg1 hm
    refine wp_draw_obO (k := 13) (sz := 18) (List.replicate 13 13) (fun _ => []) mixed (by simp) rfl (by kernel_rfl) (by kernel_rfl) (by kernel_rfl) H (by simp only [List.take_succ_cons, List.take_zero]; exact rfl) (by simp only [List.drop_succ_cons, List.drop_zero]; exact rfl)
      (fun y => by simp only [ov, Act.put, List.setIfInBounds_toArray, List.set_cons_succ, List.set_cons_zero, Nat.zero_add, Nat.reduceAdd]; exact rfl) ?_
    apply ObO.valw (V := .agg #[.int .i64 a0.kind, .string a0.key, .int .i64 a0.value, .slice A_p0_list a0.list.length c_p0_list, .bool a0.has, .bool a0.isNil])
    · intro x; rfl
    · intro s' w' y Φ R hs H hG hΦ; refine wantG rfl ?_; refine G_pNi 0 _ _ rfl (Try.isAgg35 _) rfl H rfl (Try.sizeOf35 _) ?_; exact hΦ _ _ (Sub.refl _) H
    apply ObO.valw (V := .bool (table_writes_f a0))
    · intro x; rfl
    · intro s' w' y Φ R hs H hG hΦ; simp only [List.nil_append, List.cons_append] at hG; have e0 : y 0 = _ := dh_get hG 0 rfl (by kernel_rfl); simp only [e0]; refine wantG rfl ?_; refine O_call1 rfl Try.func61 rfl rfl rfl ?_; refine (table_writes_w (a0 := a0) (h_p0_list := (h_p0_list.mono hs)) (H := H)).mono ?_; rintro e w2 ⟨rfl, H⟩; exact ⟨_, rfl, hΦ _ _ (Sub.refl _) H⟩
    apply ObO.valw (V := .bool (table_writes_f a0))
    · intro x; rfl
    · intro s' w' y Φ R hs H hG hΦ; simp only [List.nil_append, List.cons_append] at hG; have e1 : y 1 = _ := dh_get hG 1 rfl (by kernel_rfl); simp only [e1]; refine wantG rfl ?_; refine O_mv rfl rfl ?_; exact hΦ _ _ (Sub.refl _) H
    apply ObO.valw (V := undef)
    · intro x; rfl
    · intro s' w' y Φ R hs H hG hΦ; simp only [List.nil_append, List.cons_append] at hG; have eg : y 2 = _ := dh_get hG 2 rfl (by kernel_rfl); simp only [eg]; refine wantU ((wanted_t rfl rfl rfl).trans hg1) ?_; exact hΦ _ _ (Sub.refl _) H
    apply ObO.valw (V := undef)
    · intro x; rfl
    · intro s' w' y Φ R hs H hG hΦ; simp only [List.nil_append, List.cons_append] at hG; have e3 : y 3 = _ := dh_get hG 3 rfl (by kernel_rfl); have eg : y 2 = _ := dh_get hG 2 rfl (by kernel_rfl); simp only [eg, e3]; refine wantU ((wanted_t rfl rfl rfl).trans hg1) ?_; exact hΦ _ _ (Sub.refl _) H
    apply ObO.valw (V := undef)
    · intro x; rfl
    · intro s' w' y Φ R hs H hG hΦ; simp only [List.nil_append, List.cons_append] at hG; have eg : y 2 = _ := dh_get hG 2 rfl (by kernel_rfl); simp only [eg]; refine wantU ((wanted_t rfl rfl rfl).trans hg1) ?_; exact hΦ _ _ (Sub.refl _) H
    apply ObO.valw (V := undef)
    · intro x; rfl
    · intro s' w' y Φ R hs H hG hΦ; simp only [List.nil_append, List.cons_append] at hG; have eg : y 2 = _ := dh_get hG 2 rfl (by kernel_rfl); simp only [eg]; refine wantU ((wanted_t rfl rfl rfl).trans hg1) ?_; exact hΦ _ _ (Sub.refl _) H
    apply ObO.valw (V := undef)
    · intro x; rfl
    · intro s' w' y Φ R hs H hG hΦ; simp only [List.nil_append, List.cons_append] at hG; have e6 : y 6 = _ := dh_get hG 6 rfl (by kernel_rfl); have eg : y 2 = _ := dh_get hG 2 rfl (by kernel_rfl); simp only [eg, e6]; refine wantU ((wanted_t rfl rfl rfl).trans hg1) ?_; exact hΦ _ _ (Sub.refl _) H
    apply ObO.valw (V := undef)
    · intro x; rfl
    · intro s' w' y Φ R hs H hG hΦ; simp only [List.nil_append, List.cons_append] at hG; have e5 : y 5 = _ := dh_get hG 5 rfl (by kernel_rfl); have e7 : y 7 = _ := dh_get hG 7 rfl (by kernel_rfl); have eg : y 2 = _ := dh_get hG 2 rfl (by kernel_rfl); simp only [eg, e5, e7]; refine wantU ((wanted_t rfl rfl rfl).trans hg1) ?_; exact hΦ _ _ (Sub.refl _) H
    apply ObO.valw (V := undef)
    · intro x; rfl
    · intro s' w' y Φ R hs H hG hΦ; simp only [List.nil_append, List.cons_append] at hG; have e8 : y 8 = _ := dh_get hG 8 rfl (by kernel_rfl); have eg : y 2 = _ := dh_get hG 2 rfl (by kernel_rfl); simp only [eg, e8]; refine wantU ((wanted_t rfl rfl rfl).trans hg1) ?_; exact hΦ _ _ (Sub.refl _) H
    apply ObO.valw (V := undef)
    · intro x; rfl
    · intro s' w' y Φ R hs H hG hΦ; simp only [List.nil_append, List.cons_append] at hG; have e9 : y 9 = _ := dh_get hG 9 rfl (by kernel_rfl); have eg : y 2 = _ := dh_get hG 2 rfl (by kernel_rfl); simp only [eg, e9]; refine wantU ((wanted_t rfl rfl rfl).trans hg1) ?_; exact hΦ _ _ (Sub.refl _) H
    apply ObO.valw (V := undef)
    · intro x; rfl
    · intro s' w' y Φ R hs H hG hΦ; simp only [List.nil_append, List.cons_append] at hG; have e4 : y 4 = _ := dh_get hG 4 rfl (by kernel_rfl); have e10 : y 10 = _ := dh_get hG 10 rfl (by kernel_rfl); have eg : y 2 = _ := dh_get hG 2 rfl (by kernel_rfl); simp only [eg, e4, e10]; refine wantU ((wanted_t rfl rfl rfl).trans hg1) ?_; exact hΦ _ _ (Sub.refl _) H
    apply ObO.valw (V := .bool false)
    · intro x; rfl
    · intro s' w' y Φ R hs H hG hΦ; simp only [List.nil_append, List.cons_append] at hG; have e2 : y 2 = _ := dh_get hG 2 rfl (by kernel_rfl); have e11 : y 11 = _ := dh_get hG 11 rfl (by kernel_rfl); simp only [e2, e11]; refine wantG rfl ?_; refine O_pickF rfl rfl hg1 rfl ?_; exact hΦ _ _ (Sub.refl _) H
    clear H
    intro s3 w3 yy hs3 H hG
    replace H := (show Holds _ _ ([] ++ _) _ from H); rw [List.nil_append] at H
    simp only [List.nil_append, List.cons_append] at hG
    have e0 : yy 0 = _ := gh_get hG 0 rfl
    have e1 : yy 1 = _ := gh_get hG 1 rfl
    have e2 : yy 2 = _ := gh_get hG 2 rfl
    have e3 : yy 3 = _ := gh_get hG 3 rfl
    have e4 : yy 4 = _ := gh_get hG 4 rfl
    have e5 : yy 5 = _ := gh_get hG 5 rfl
    have e6 : yy 6 = _ := gh_get hG 6 rfl
    have e7 : yy 7 = _ := gh_get hG 7 rfl
    have e8 : yy 8 = _ := gh_get hG 8 rfl
    have e9 : yy 9 = _ := gh_get hG 9 rfl
    have e10 : yy 10 = _ := gh_get hG 10 rfl
    have e11 : yy 11 = _ := gh_get hG 11 rfl
    have e12 : yy 12 = _ := gh_get hG 12 rfl
    simp only [e0, e1, e2, e3, e4, e5, e6, e7, e8, e9, e10, e11, e12]
    clear hG e0 e1 e2 e3 e4 e5 e6 e7 e8 e9 e10 e11 e12
    replace H := H.forget hs3; clear hs3
    apply seq_op (V := .bool false) rfl
    · intro Φ hΦ; refine O_as rfl rfl ?_; exact hΦ
    (try simp only [Act.put, List.setIfInBounds_toArray, List.set_cons_succ, List.set_cons_zero])
    refine list_end ?_
    refine then_norm ?_
    refine wp_ret ?_
    have hm := Option.some.inj hm
    subst hm
    replace H := H.dropAt 0 rfl; simp only [List.eraseIdx_cons_succ, List.eraseIdx_cons_zero] at H
    exact ret1 rfl (rv_tmp rfl) rfl ⟨rfl, H⟩
def slices_IndexFunc_Op_table_Table_Final_1_l2 (a1c0 : List Op') (a1c1 : Wr) : Nat → List Op' → Option ((Int ⊕ Unit))
  | k2, []  => some (.inr ())
  | k2, x2 :: r2 => (table_Table_Final_1_f x2 a1c0 a1c1).bind fun u1 => if u1 = true then (some (.inl (k2 : Int))) else (slices_IndexFunc_Op_table_Table_Final_1_l2 a1c0 a1c1 (k2 + 1) r2)

def slices_IndexFunc_Op_table_Table_Final_1_f (a0 : List Op') (a1c0 : List Op') (a1c1 : Wr) : Option Int := (slices_IndexFunc_Op_table_Table_Final_1_l2 a1c0 a1c1 0 a0).bind fun | .inl z2_r => (some z2_r) | .inr () => (some (-1))

set_option maxHeartbeats 4000000 in
theorem slices_IndexFunc_Op_table_Table_Final_1_w {E : World} {s : SH} {L : List HP} {w : World} {a0 : List Op'} {a1c0 : List Op'} {a1c1 : Wr} {A_p0 : Option Addr} {c_p0 : Nat} (h_p0 : kOp.Sl s (.slice A_p0 a0.length c_p0) a0) {A_p1c0 : Option Addr} {c_p1c0 : Nat} (h_p1c0 : kOp.Sl s (.slice A_p1c0 a1c0.length c_p1c0) a1c0) {b_p1c0 o_p1c0 : Nat} (hC_p1c0 : Cells s ⟨b_p1c0, o_p1c0, none⟩ [.slice A_p1c0 a1c0.length c_p1c0]) {b_p1c1 o_p1c1 : Nat} (hC_p1c1 : Cells s ⟨b_p1c1, o_p1c1, none⟩ [.int .i64 a1c1.txn, .int .i64 a1c1.op]) {R : Int} (hm : slices_IndexFunc_Op_table_Table_Final_1_f a0 a1c0 a1c1 = some R) (H : Holds E s (L) w) :
    Calls Try.prog 63 #[.slice A_p0 a0.length c_p0, .func (.func 64) #[] #[.pointer (some ⟨b_p1c0, o_p1c0, none⟩), .pointer (some ⟨b_p1c1, o_p1c1, none⟩)]] w fun e w' => e = .returned (.int .i64 R) ∧ Holds E s (L) w' := by
  unfold slices_IndexFunc_Op_table_Table_Final_1_f at hm
  go_enter Try.func63, Try.ntmps63
  refine wp_seq ?_
  refine wp_region_lit ?_
  apply seq_op (V := .int .i64 0) rfl
  · intro Φ hΦ; refine O_as rfl rfl ?_; exact hΦ
  (try simp only [Act.put, List.setIfInBounds_toArray, List.set_cons_succ, List.set_cons_zero])
  refine list_end ?_
  refine then_norm ?_
  refine wp_seq ?_
  refine wp_seq ?_
  refine wp_region_lit ?_
  apply seq_op (V := .slice A_p0 a0.length c_p0) rfl
  · intro Φ hΦ; refine O_mv rfl rfl ?_; exact hΦ
  (try simp only [Act.put, List.setIfInBounds_toArray, List.set_cons_succ, List.set_cons_zero])
  apply seq_op (V := .int .i64 (a0.length : Int)) rfl
  · intro Φ hΦ; refine O_len rfl Try.underlying28 rfl ?_; exact hΦ
  (try simp only [Act.put, List.setIfInBounds_toArray, List.set_cons_succ, List.set_cons_zero])
  apply seq_op (V := .int .i64 0) rfl
  · intro Φ hΦ; refine O_mv rfl rfl ?_; exact hΦ
  (try simp only [Act.put, List.setIfInBounds_toArray, List.set_cons_succ, List.set_cons_zero])
  refine list_end ?_
  refine then_norm ?_
  refine wp_block ?_
  obtain ⟨R2, hq2, hm⟩ := bs hm
  have hn2 := Nat.le_trans (len_le (d := kOp) h_p0 (by decide)) (by decide : (140737488355328 : Nat) ≤ 9223372036854775807)
  refine wp_loopF [none, none, none, none, some 4, some 5, none, none, some 8, some 9, some 10, some 11, some 12, some 13, some 14, some 15, some 16, some 17, some 18] rfl (by simp) (fun f w => ∃ (k2 : Nat) (r2 : List Op'), a0.drop k2 = r2 ∧ f 8 = .int .i64 (k2 : Int) ∧ slices_IndexFunc_Op_table_Table_Final_1_l2 a1c0 a1c1 k2 r2 = some R2 ∧ Holds E s (L) w) (fun f w => a0.length - (intOf (f 8)).toNat) ?_ ?_
  · exact ⟨0, a0, rfl, rfl, hq2, H⟩
  · clear H
    intro f w hI
    obtain ⟨k2, r2, hd2, hf8, hq2', H⟩ := hI
    clear hq2; have hq2 := hq2'; clear hq2'
    simp only [ovm, mixM]
    simp only [hf8]; clear hf8
    refine wp_seq ?_
    refine wp_region_lit ?_
    apply seq_op (V := .bool (decide ((k2 : Int) < (a0.length : Int)))) rfl
    · intro Φ hΦ; refine O_bin rfl rfl rfl eqg_int r_lss ?_; exact hΦ
    (try simp only [Act.put, List.setIfInBounds_toArray, List.set_cons_succ, List.set_cons_zero])
    refine list_end ?_
    refine then_norm ?_
    refine wp_seq ?_
    refine wp_cond_split rfl (fun hc => ?_) (fun hc => ?_)
    · have hc1 := hc
      clear hc
      obtain ⟨x2, r2', rfl, hd2', hd2'', hl2⟩ := rng_t hd2 hc1
      rw [slices_IndexFunc_Op_table_Table_Final_1_l2] at hq2
      refine wp_skip ?_
      refine then_norm ?_
      refine wp_seq ?_
      refine wp_block ?_
      refine wp_seq ?_
      refine wp_region_lit ?_
      apply seq_op (V := .int .i64 (k2 : Int)) rfl
      · intro Φ hΦ; refine O_mv rfl rfl ?_; exact hΦ
      (try simp only [Act.put, List.setIfInBounds_toArray, List.set_cons_succ, List.set_cons_zero])
      apply seq_op (V := .int .i64 (k2 : Int)) rfl
      · intro Φ hΦ; refine O_as rfl rfl ?_; exact hΦ
      (try simp only [Act.put, List.setIfInBounds_toArray, List.set_cons_succ, List.set_cons_zero])
      refine list_end ?_
      refine then_norm ?_
      refine wp_seq ?_
      obtain ⟨be1, oe1, A3e1, c3e1, rfl, hCe1, h0e1, h1e1, h2e1, h3e1⟩ := kOp_el h_p0 hd2'
      obtain ⟨u1, gx1, hq2⟩ := bs hq2
      refine wp_region_lit ?_
      apply seq_op (V := .func (.func 64) #[] #[.pointer (some ⟨b_p1c0, o_p1c0, none⟩), .pointer (some ⟨b_p1c1, o_p1c1, none⟩)]) rfl
      · intro Φ hΦ; refine O_mv rfl rfl ?_; exact hΦ
      (try simp only [Act.put, List.setIfInBounds_toArray, List.set_cons_succ, List.set_cons_zero])
      apply seq_op (V := .slice (some ⟨be1, oe1, none⟩) a0.length c_p0) rfl
      · intro Φ hΦ; refine O_mv rfl rfl ?_; exact hΦ
      (try simp only [Act.put, List.setIfInBounds_toArray, List.set_cons_succ, List.set_cons_zero])
      apply seq_op (V := .int .i64 (k2 : Int)) rfl
      · intro Φ hΦ; refine O_mv rfl rfl ?_; exact hΦ
      (try simp only [Act.put, List.setIfInBounds_toArray, List.set_cons_succ, List.set_cons_zero])
      apply seq_op (V := .pointer (some ⟨be1, oe1 + k2 * 6, none⟩)) rfl
      · intro Φ hΦ; refine O_ix rfl Try.underlying28 (Try.sizeOf35 _) rfl rfl rfl hl2 ?_; exact hΦ
      (try simp only [Act.put, List.setIfInBounds_toArray, List.set_cons_succ, List.set_cons_zero])
      apply seq_op (V := .agg #[.int .i64 x2.kind, .string x2.key, .int .i64 x2.value, .slice A3e1 x2.list.length c3e1, .bool x2.has, .bool x2.isNil]) rfl
      · intro Φ hΦ; refine G_sN _ _ rfl (Try.isAgg35 _) rfl H hCe1 (Try.sizeOf35 _) ?_; exact hΦ
      (try simp only [Act.put, List.setIfInBounds_toArray, List.set_cons_succ, List.set_cons_zero])
      refine seq_call rfl (fun Φ hΦ => by refine O_callv1 (v1 := .agg #[.int .i64 x2.kind, .string x2.key, .int .i64 x2.value, .slice A3e1 x2.list.length c3e1, .bool x2.has, .bool x2.isNil]) rfl Try.func64 rfl rfl rfl rfl (by simp only [List.push_toArray, List.append_toArray, List.cons_append, List.nil_append]) hΦ) (table_Table_Final_1_w (a0 := x2) (h_p0_list := h3e1) (a1 := a1c0) (hC_p1 := hC_p1c0) (h_p1 := h_p1c0) (a2 := a1c1) (hC_p2 := hC_p1c1) (hm := gx1) (H := H)) ?_
      clear H
      rintro e w1 ⟨rfl, H⟩; refine ⟨_, rfl, ?_⟩
      (try simp only [Act.put, List.setIfInBounds_toArray, List.set_cons_succ, List.set_cons_zero])
      refine list_end ?_
      refine then_norm ?_
      refine wp_cond_split rfl (fun hc => ?_) (fun hc => ?_)
      · have hc2 := hc
        clear hc
        replace hq2 := ifT hc2 hq2
        refine wp_seq ?_
        refine wp_region_lit ?_
        apply seq_op (V := .int .i64 (k2 : Int)) rfl
        · intro Φ hΦ; refine O_mv rfl rfl ?_; exact hΦ
        (try simp only [Act.put, List.setIfInBounds_toArray, List.set_cons_succ, List.set_cons_zero])
        apply seq_op (V := .int .i64 (k2 : Int)) rfl
        · intro Φ hΦ; refine O_as rfl rfl ?_; exact hΦ
        (try simp only [Act.put, List.setIfInBounds_toArray, List.set_cons_succ, List.set_cons_zero])
        refine list_end ?_
        refine then_norm ?_
        refine wp_ret ?_
        refine block_ret ?_
        refine then_ret ?_
        refine then_ret ?_
        refine block_ret ?_
        refine then_ret ?_
        have hq2 := Option.some.inj hq2
        subst hq2
        (try dsimp only at hm)
        have hm := Option.some.inj hm
        subst hm
        exact ret1 rfl (rv_tmp rfl) rfl ⟨rfl, H⟩
      · have hc2 := hc
        clear hc
        replace hq2 := ifF hc2 hq2
        refine wp_skip ?_
        refine block_norm ?_
        refine then_norm ?_
        refine wp_region_lit ?_
        apply seq_op (V := .int .i64 (IntKind.i64.wrap ((k2 : Int) + 1))) rfl
        · intro Φ hΦ; refine O_bin rfl rfl rfl eqg_int r_add ?_; exact hΦ
        (try simp only [Act.put, List.setIfInBounds_toArray, List.set_cons_succ, List.set_cons_zero])
        apply seq_op (V := .int .i64 (IntKind.i64.wrap ((k2 : Int) + 1))) rfl
        · intro Φ hΦ; refine O_mv rfl rfl ?_; exact hΦ
        (try simp only [Act.put, List.setIfInBounds_toArray, List.set_cons_succ, List.set_cons_zero])
        refine list_end ?_
        refine then_norm ?_
        refine ⟨⟨⟨rfl, rfl, rfl, rfl, rfl, rfl, rfl⟩, rfl⟩, ⟨k2 + 1, _, hd2'', wrap_succ hl2 hn2, hq2, H⟩, ?_⟩
        exact meas_succ hl2 hn2
    · have hc1 := hc
      clear hc
      obtain rfl := rng_f hd2 hc1
      rw [slices_IndexFunc_Op_table_Table_Final_1_l2] at hq2
      refine wp_exit ?_
      refine then_exit ?_
      refine then_exit ?_
      have hq2 := Option.some.inj hq2
      subst hq2
      (try dsimp only at hm)
      refine block_exit ?_
      refine then_norm ?_
      refine wp_seq ?_
      refine wp_region_lit ?_
      apply seq_op (V := .int .i64 (-1)) rfl
      · intro Φ hΦ; refine O_as rfl rfl ?_; exact hΦ
      (try simp only [Act.put, List.setIfInBounds_toArray, List.set_cons_succ, List.set_cons_zero])
      refine list_end ?_
      refine then_norm ?_
      refine wp_ret ?_
      have hm := Option.some.inj hm
      subst hm
      exact ret1 rfl (rv_tmp rfl) rfl ⟨rfl, H⟩
def slices_ContainsFunc_Op_table_Table_Final_1_f (a0 : List Op') (a1c0 : List Op') (a1c1 : Wr) : Option Bool := (slices_IndexFunc_Op_table_Table_Final_1_f a0 a1c0 a1c1).bind fun u1 => some (decide (u1 ≥ 0))

set_option maxHeartbeats 4000000 in
theorem slices_ContainsFunc_Op_table_Table_Final_1_w {E : World} {s : SH} {L : List HP} {w : World} {a0 : List Op'} {a1c0 : List Op'} {a1c1 : Wr} {A_p0 : Option Addr} {c_p0 : Nat} (h_p0 : kOp.Sl s (.slice A_p0 a0.length c_p0) a0) {A_p1c0 : Option Addr} {c_p1c0 : Nat} (h_p1c0 : kOp.Sl s (.slice A_p1c0 a1c0.length c_p1c0) a1c0) {b_p1c0 o_p1c0 : Nat} (hC_p1c0 : Cells s ⟨b_p1c0, o_p1c0, none⟩ [.slice A_p1c0 a1c0.length c_p1c0]) {b_p1c1 o_p1c1 : Nat} (hC_p1c1 : Cells s ⟨b_p1c1, o_p1c1, none⟩ [.int .i64 a1c1.txn, .int .i64 a1c1.op]) {R : Bool} (hm : slices_ContainsFunc_Op_table_Table_Final_1_f a0 a1c0 a1c1 = some R) (H : Holds E s (L) w) :
    Calls Try.prog 19 #[.slice A_p0 a0.length c_p0, .func (.func 64) #[] #[.pointer (some ⟨b_p1c0, o_p1c0, none⟩), .pointer (some ⟨b_p1c1, o_p1c1, none⟩)]] w fun e w' => e = .returned (.bool R) ∧ Holds E s (L) w' := by
  unfold slices_ContainsFunc_Op_table_Table_Final_1_f at hm
  go_enter Try.func19, Try.ntmps19
  refine wp_seq ?_
  refine wp_region_lit ?_
  apply seq_op (V := .bool false) rfl
  · intro Φ hΦ; refine O_as rfl rfl ?_; exact hΦ
  (try simp only [Act.put, List.setIfInBounds_toArray, List.set_cons_succ, List.set_cons_zero])
  refine list_end ?_
  refine then_norm ?_
  refine wp_seq ?_
  obtain ⟨u1, gx1, hm⟩ := bs hm
  refine wp_region_lit ?_
  apply seq_op (V := .slice A_p0 a0.length c_p0) rfl
  · intro Φ hΦ; refine O_mv rfl rfl ?_; exact hΦ
  (try simp only [Act.put, List.setIfInBounds_toArray, List.set_cons_succ, List.set_cons_zero])
  apply seq_op (V := .func (.func 64) #[] #[.pointer (some ⟨b_p1c0, o_p1c0, none⟩), .pointer (some ⟨b_p1c1, o_p1c1, none⟩)]) rfl
  · intro Φ hΦ; refine O_mv rfl rfl ?_; exact hΦ
  (try simp only [Act.put, List.setIfInBounds_toArray, List.set_cons_succ, List.set_cons_zero])
  refine seq_call rfl (fun Φ hΦ => by refine O_call2 rfl Try.func63 rfl rfl rfl rfl hΦ) (slices_IndexFunc_Op_table_Table_Final_1_w (a0 := a0) (h_p0 := h_p0) (a1c0 := a1c0) (hC_p1c0 := hC_p1c0) (h_p1c0 := h_p1c0) (a1c1 := a1c1) (hC_p1c1 := hC_p1c1) (hm := gx1) (H := H)) ?_
  clear H
  rintro e w1 ⟨rfl, H⟩; refine ⟨_, rfl, ?_⟩
  (try simp only [Act.put, List.setIfInBounds_toArray, List.set_cons_succ, List.set_cons_zero])
  apply seq_op (V := .bool (decide (u1 ≥ 0))) rfl
  · intro Φ hΦ; refine O_bin rfl rfl rfl eqg_int r_geq ?_; exact hΦ
  (try simp only [Act.put, List.setIfInBounds_toArray, List.set_cons_succ, List.set_cons_zero])
  apply seq_op (V := .bool (decide (u1 ≥ 0))) rfl
  · intro Φ hΦ; refine O_as rfl rfl ?_; exact hΦ
  (try simp only [Act.put, List.setIfInBounds_toArray, List.set_cons_succ, List.set_cons_zero])
  refine list_end ?_
  refine then_norm ?_
  refine wp_ret ?_
  have hm := Option.some.inj hm
  subst hm
  exact ret1 rfl (rv_tmp rfl) rfl ⟨rfl, H⟩
def table_Table_Final_f (a0 : Tbl) (a1 : Wr) : Option Bool := (table_Table_Txn_f a0 a1.txn).bind fun u1 => if ((decide (a1.op < 0)) || (decide (a1.op ≥ (u1.ops.length : Int)))) = true then (some false) else ((rdI u1.ops a1.op).bind fun u2 => if (!(table_writes_f u2)) = true then (some false) else ((sliI u1.ops (IntKind.i64.wrap (a1.op + 1))).bind fun u3 => (slices_ContainsFunc_Op_table_Table_Final_1_f u3 u1.ops a1).bind fun u4 => some (!u4)))

set_option maxHeartbeats 4000000 in
theorem table_Table_Final_w {E : World} {s : SH} {L : List HP} {w : World} {a0 : Tbl} {a1 : Wr} {A_p0_l : Option Addr} {c_p0_l : Nat} (h_p0_l : kT.Sl s (.slice A_p0_l a0.l.length c_p0_l) a0.l) {r_p0_kinds : Nat} (h_p0_kinds : MapKF kcS vcI s r_p0_kinds a0.kinds) {r_p0_writers : Nat} (h_p0_writers : MapKO kcP kWr s r_p0_writers a0.writers) {b_p0 o_p0 : Nat} (hC_p0 : Cells s ⟨b_p0, o_p0, none⟩ [.slice A_p0_l a0.l.length c_p0_l, .map (some r_p0_kinds), .map (some r_p0_writers), .bool a0.made]) {R : Bool} (hm : table_Table_Final_f a0 a1 = some R) (H : Holds E s (L) w) :
    Calls Try.prog 23 #[.pointer (some ⟨b_p0, o_p0, none⟩), .agg #[.int .i64 a1.txn, .int .i64 a1.op]] w fun e w' => e = .returned (.bool R) ∧ Holds E s (L) w' := by
  unfold table_Table_Final_f at hm
  go_enter Try.func23, Try.ntmps23
  refine wp_seq ?_
  refine wp_region_lit ?_
  refine OpG.list rfl ?_; refine B_x 41 _ rfl (v := .agg #[.int .i64 a1.txn, .int .i64 a1.op]) rfl H ?_; clear H; intro b3 w1 H; (try simp only [Value.cells] at H)
  (try simp only [Act.put, List.setIfInBounds_toArray, List.set_cons_succ, List.set_cons_zero])
  apply seq_op (V := .bool false) rfl
  · intro Φ hΦ; refine O_as rfl rfl ?_; exact hΦ
  (try simp only [Act.put, List.setIfInBounds_toArray, List.set_cons_succ, List.set_cons_zero])
  refine list_end ?_
  refine then_norm ?_
  refine wp_seq ?_
  obtain ⟨u1, gx1, hm⟩ := bs hm
  refine wp_region_lit ?_
  apply seq_op (V := .pointer (some ⟨b_p0, o_p0, none⟩)) rfl
  · intro Φ hΦ; refine O_mv rfl rfl ?_; exact hΦ
  (try simp only [Act.put, List.setIfInBounds_toArray, List.set_cons_succ, List.set_cons_zero])
  apply seq_op (V := .pointer (some ⟨b3, 0, none⟩)) rfl
  · intro Φ hΦ; refine O_fld rfl Try.underlying41 rfl (Try.sizeOf3 _) rfl ?_; exact hΦ
  (try simp only [Act.put, List.setIfInBounds_toArray, List.set_cons_succ, List.set_cons_zero])
  apply seq_op (V := .int .i64 a1.txn) rfl
  · intro Φ hΦ; refine L_1 0 _ _ rfl (Try.isAgg3 _) rfl H rfl rfl ?_; exact hΦ
  (try simp only [Act.put, List.setIfInBounds_toArray, List.set_cons_succ, List.set_cons_zero])
  refine seq_call rfl (fun Φ hΦ => by refine O_call2 rfl Try.func58 rfl rfl rfl rfl hΦ) (table_Table_Txn_w (a0 := a0) (hC_p0 := hC_p0) (h_p0_l := h_p0_l) (h_p0_kinds := h_p0_kinds) (h_p0_writers := h_p0_writers) (a1 := a1.txn) (hm := gx1) (H := H)) ?_
  clear H
  rintro e w1 ⟨Ar10_4, cr10_4, nr10_4, s1, rfl, hs', hr10_4, hrr10_0, hrr10_1, hrr10_2, hrr10_3, H⟩; refine ⟨_, rfl, ?_⟩
  obtain rfl := sl_n hr10_4
  replace h_p0_l := h_p0_l.mono hs'
  replace h_p0_kinds := h_p0_kinds.mono hs'
  replace h_p0_writers := h_p0_writers.mono hs'
  replace hC_p0 := hC_p0.mono hs'
  have hS := hs'
  (try simp only [Act.put, List.setIfInBounds_toArray, List.set_cons_succ, List.set_cons_zero])
  apply seq_op (V := .slice Ar10_4 u1.ops.length cr10_4) rfl
  · intro Φ hΦ; refine O_fd rfl Try.underlying30 rfl rfl (Try.isAgg28 _) rfl ?_; exact hΦ
  (try simp only [Act.put, List.setIfInBounds_toArray, List.set_cons_succ, List.set_cons_zero])
  refine OpG.list rfl ?_; refine G_alloc 28 rfl (Try.zeroValue28 _) H ?_; clear H; intro b5 w1 H; (try simp only [Value.cells] at H)
  (try simp only [Act.put, List.setIfInBounds_toArray, List.set_cons_succ, List.set_cons_zero])
  refine OpG.list rfl ?_; refine S_1 0 _ _ _ rfl (Try.sizeOf28 _) rfl (v := .slice Ar10_4 u1.ops.length cr10_4) rfl H rfl ?_ ?_ ?_; (focus (first | rfl | (simp [Value.oneCell']; done))); (focus (simp; done)); clear H; intro w1 H; simp only [List.set_cons_succ, List.set_cons_zero] at H
  (try simp only [Act.put, List.setIfInBounds_toArray, List.set_cons_succ, List.set_cons_zero])
  refine list_end ?_
  refine then_norm ?_
  refine wp_seq ?_
  refine wp_seq ?_
  rcases Bool.eq_false_or_eq_true ((decide (a1.op < 0)) || (decide (a1.op ≥ (u1.ops.length : Int)))) with hg1 | hg1
  · replace hm := ifT hg1 hm
    refine wp_region_lit ?_
    apply seq_op (V := .pointer (some ⟨b3, 1, none⟩)) rfl
    · intro Φ hΦ; refine O_fld rfl Try.underlying41 rfl (Try.sizeOf3 _) rfl ?_; exact hΦ
    (try simp only [Act.put, List.setIfInBounds_toArray, List.set_cons_succ, List.set_cons_zero])
    apply seq_op (V := .int .i64 a1.op) rfl
    · intro Φ hΦ; refine L_1 1 _ _ rfl (Try.isAgg3 _) rfl H rfl rfl ?_; exact hΦ
    (try simp only [Act.put, List.setIfInBounds_toArray, List.set_cons_succ, List.set_cons_zero])
    apply seq_op (V := .bool (decide (a1.op < 0))) rfl
    · intro Φ hΦ; refine O_bin rfl rfl rfl eqg_int r_lss ?_; exact hΦ
    (try simp only [Act.put, List.setIfInBounds_toArray, List.set_cons_succ, List.set_cons_zero])
    apply seq_op (V := .bool (decide (a1.op < 0))) rfl
    · intro Φ hΦ; refine O_mv rfl rfl ?_; exact hΦ
    (try simp only [Act.put, List.setIfInBounds_toArray, List.set_cons_succ, List.set_cons_zero])
    refine seq_opg (c := (!(decide (a1.op < 0)))) (V := .pointer (some ⟨b3, 1, none⟩)) (by first | exact wanted_f rfl rfl rfl | exact wanted_vf rfl rfl rfl) ?_ ?_
    · intro hc Φ hΦ; refine O_fld rfl Try.underlying41 rfl (Try.sizeOf3 _) rfl ?_; exact hΦ
    (try simp only [Act.put, List.setIfInBounds_toArray, List.set_cons_succ, List.set_cons_zero])
    refine seq_opg (c := (!(decide (a1.op < 0)))) (V := .int .i64 a1.op) (by first | exact wanted_f rfl rfl rfl | exact wanted_vf rfl rfl rfl) ?_ ?_
    · intro hc Φ hΦ; (repeat (first | rw [vg_of hc] | rw [vg_of (and_l hc)] | rw [vg_of (and_l (and_l hc))] | rw [vg_of (and_l (and_l (and_l hc)))] | rw [vg_and hc])); refine L_1 1 _ _ rfl (Try.isAgg3 _) rfl H rfl rfl ?_; exact hΦ
    (try simp only [Act.put, List.setIfInBounds_toArray, List.set_cons_succ, List.set_cons_zero])
    refine seq_opg (c := (!(decide (a1.op < 0)))) (V := .slice Ar10_4 u1.ops.length cr10_4) (by first | exact wanted_f rfl rfl rfl | exact wanted_vf rfl rfl rfl) ?_ ?_
    · intro hc Φ hΦ; refine L_1 0 _ _ rfl (Try.isAgg28 _) rfl H rfl rfl ?_; exact hΦ
    (try simp only [Act.put, List.setIfInBounds_toArray, List.set_cons_succ, List.set_cons_zero])
    refine seq_opg (c := (!(decide (a1.op < 0)))) (V := .int .i64 (u1.ops.length : Int)) (by first | exact wanted_f rfl rfl rfl | exact wanted_vf rfl rfl rfl) ?_ ?_
    · intro hc Φ hΦ; (repeat (first | rw [vg_of hc] | rw [vg_of (and_l hc)] | rw [vg_of (and_l (and_l hc))] | rw [vg_of (and_l (and_l (and_l hc)))] | rw [vg_and hc])); refine O_len rfl Try.underlying28 rfl ?_; exact hΦ
    (try simp only [Act.put, List.setIfInBounds_toArray, List.set_cons_succ, List.set_cons_zero])
    refine seq_opg (c := (!(decide (a1.op < 0)))) (V := .bool (decide (a1.op ≥ (u1.ops.length : Int)))) (by first | exact wanted_f rfl rfl rfl | exact wanted_vf rfl rfl rfl) ?_ ?_
    · intro hc Φ hΦ; (repeat (first | rw [vg_of hc] | rw [vg_of (and_l hc)] | rw [vg_of (and_l (and_l hc))] | rw [vg_of (and_l (and_l (and_l hc)))] | rw [vg_and hc])); refine O_bin rfl rfl rfl eqg_int r_geq ?_; exact hΦ
    (try simp only [Act.put, List.setIfInBounds_toArray, List.set_cons_succ, List.set_cons_zero])
    apply seq_op (V := .bool ((decide (a1.op < 0)) || (decide (a1.op ≥ (u1.ops.length : Int))))) rfl
    · intro Φ hΦ; refine G_or _ _ _ rfl rfl rfl rfl ?_; exact hΦ
    (try simp only [Act.put, List.setIfInBounds_toArray, List.set_cons_succ, List.set_cons_zero])
    apply seq_op (V := .bool ((decide (a1.op < 0)) || (decide (a1.op ≥ (u1.ops.length : Int))))) rfl
    · intro Φ hΦ; refine O_mv rfl rfl ?_; exact hΦ
    (try simp only [Act.put, List.setIfInBounds_toArray, List.set_cons_succ, List.set_cons_zero])
    refine seq_skip ((wanted_f rfl rfl rfl).trans (congrArg not hg1)) ?_
    (try simp only [Act.put, List.setIfInBounds_toArray, List.set_cons_succ, List.set_cons_zero])
    refine seq_skip ((wanted_f rfl rfl rfl).trans (congrArg not hg1)) ?_
    (try simp only [Act.put, List.setIfInBounds_toArray, List.set_cons_succ, List.set_cons_zero])
    refine seq_skip ((wanted_f rfl rfl rfl).trans (congrArg not hg1)) ?_
    (try simp only [Act.put, List.setIfInBounds_toArray, List.set_cons_succ, List.set_cons_zero])
    refine seq_skip ((wanted_f rfl rfl rfl).trans (congrArg not hg1)) ?_
    (try simp only [Act.put, List.setIfInBounds_toArray, List.set_cons_succ, List.set_cons_zero])
    refine seq_skip ((wanted_f rfl rfl rfl).trans (congrArg not hg1)) ?_
    (try simp only [Act.put, List.setIfInBounds_toArray, List.set_cons_succ, List.set_cons_zero])
    refine seq_skip ((wanted_f rfl rfl rfl).trans (congrArg not hg1)) ?_
    (try simp only [Act.put, List.setIfInBounds_toArray, List.set_cons_succ, List.set_cons_zero])
    refine seq_skip ((wanted_f rfl rfl rfl).trans (congrArg not hg1)) ?_
    (try simp only [Act.put, List.setIfInBounds_toArray, List.set_cons_succ, List.set_cons_zero])
    apply seq_op (V := .bool true) rfl
    · intro Φ hΦ; refine O_pickT rfl rfl hg1 rfl ?_; exact hΦ
    (try simp only [Act.put, List.setIfInBounds_toArray, List.set_cons_succ, List.set_cons_zero])
    refine list_end ?_
    refine then_norm ?_
    refine wp_cond_true rfl ?_
    refine wp_seq ?_
    refine wp_region_lit ?_
    apply seq_op (V := .bool false) rfl
    · intro Φ hΦ; refine O_as rfl rfl ?_; exact hΦ
    (try simp only [Act.put, List.setIfInBounds_toArray, List.set_cons_succ, List.set_cons_zero])
    refine list_end ?_
    refine then_norm ?_
    refine wp_ret ?_
    refine then_ret ?_
    have hm := Option.some.inj hm
    subst hm
    replace H := H.dropAt 1 rfl; simp only [List.eraseIdx_cons_succ, List.eraseIdx_cons_zero] at H
    replace H := H.dropAt 0 rfl; simp only [List.eraseIdx_cons_succ, List.eraseIdx_cons_zero] at H
    replace H := H.forget hS
    exact ret1 rfl (rv_tmp rfl) rfl ⟨rfl, H⟩
  · replace hm := ifF hg1 hm
    obtain ⟨u2, gx2, hm⟩ := bs hm
    obtain ⟨kk1, gk1, gl1, gd1⟩ := rdI_some gx2
    obtain ⟨be1, oe1, A3e1, c3e1, rfl, hCe1, h0e1, h1e1, h2e1, h3e1⟩ := kOp_el hr10_4 gd1
    refine wp_region_lit ?_
    apply seq_op (V := .pointer (some ⟨b3, 1, none⟩)) rfl
    · intro Φ hΦ; refine O_fld rfl Try.underlying41 rfl (Try.sizeOf3 _) rfl ?_; exact hΦ
    (try simp only [Act.put, List.setIfInBounds_toArray, List.set_cons_succ, List.set_cons_zero])
    apply seq_op (V := .int .i64 a1.op) rfl
    · intro Φ hΦ; refine L_1 1 _ _ rfl (Try.isAgg3 _) rfl H rfl rfl ?_; exact hΦ
    (try simp only [Act.put, List.setIfInBounds_toArray, List.set_cons_succ, List.set_cons_zero])
    apply seq_op (V := .bool (decide (a1.op < 0))) rfl
    · intro Φ hΦ; refine O_bin rfl rfl rfl eqg_int r_lss ?_; exact hΦ
    (try simp only [Act.put, List.setIfInBounds_toArray, List.set_cons_succ, List.set_cons_zero])
    apply seq_op (V := .bool (decide (a1.op < 0))) rfl
    · intro Φ hΦ; refine O_mv rfl rfl ?_; exact hΦ
    (try simp only [Act.put, List.setIfInBounds_toArray, List.set_cons_succ, List.set_cons_zero])
    refine seq_opg (c := (!(decide (a1.op < 0)))) (V := .pointer (some ⟨b3, 1, none⟩)) (by first | exact wanted_f rfl rfl rfl | exact wanted_vf rfl rfl rfl) ?_ ?_
    · intro hc Φ hΦ; refine O_fld rfl Try.underlying41 rfl (Try.sizeOf3 _) rfl ?_; exact hΦ
    (try simp only [Act.put, List.setIfInBounds_toArray, List.set_cons_succ, List.set_cons_zero])
    refine seq_opg (c := (!(decide (a1.op < 0)))) (V := .int .i64 a1.op) (by first | exact wanted_f rfl rfl rfl | exact wanted_vf rfl rfl rfl) ?_ ?_
    · intro hc Φ hΦ; (repeat (first | rw [vg_of hc] | rw [vg_of (and_l hc)] | rw [vg_of (and_l (and_l hc))] | rw [vg_of (and_l (and_l (and_l hc)))] | rw [vg_and hc])); refine L_1 1 _ _ rfl (Try.isAgg3 _) rfl H rfl rfl ?_; exact hΦ
    (try simp only [Act.put, List.setIfInBounds_toArray, List.set_cons_succ, List.set_cons_zero])
    refine seq_opg (c := (!(decide (a1.op < 0)))) (V := .slice (some ⟨be1, oe1, none⟩) u1.ops.length cr10_4) (by first | exact wanted_f rfl rfl rfl | exact wanted_vf rfl rfl rfl) ?_ ?_
    · intro hc Φ hΦ; refine L_1 0 _ _ rfl (Try.isAgg28 _) rfl H rfl rfl ?_; exact hΦ
    (try simp only [Act.put, List.setIfInBounds_toArray, List.set_cons_succ, List.set_cons_zero])
    refine seq_opg (c := (!(decide (a1.op < 0)))) (V := .int .i64 (u1.ops.length : Int)) (by first | exact wanted_f rfl rfl rfl | exact wanted_vf rfl rfl rfl) ?_ ?_
    · intro hc Φ hΦ; (repeat (first | rw [vg_of hc] | rw [vg_of (and_l hc)] | rw [vg_of (and_l (and_l hc))] | rw [vg_of (and_l (and_l (and_l hc)))] | rw [vg_and hc])); refine O_len rfl Try.underlying28 rfl ?_; exact hΦ
    (try simp only [Act.put, List.setIfInBounds_toArray, List.set_cons_succ, List.set_cons_zero])
    refine seq_opg (c := (!(decide (a1.op < 0)))) (V := .bool (decide (a1.op ≥ (u1.ops.length : Int)))) (by first | exact wanted_f rfl rfl rfl | exact wanted_vf rfl rfl rfl) ?_ ?_
    · intro hc Φ hΦ; (repeat (first | rw [vg_of hc] | rw [vg_of (and_l hc)] | rw [vg_of (and_l (and_l hc))] | rw [vg_of (and_l (and_l (and_l hc)))] | rw [vg_and hc])); refine O_bin rfl rfl rfl eqg_int r_geq ?_; exact hΦ
    (try simp only [Act.put, List.setIfInBounds_toArray, List.set_cons_succ, List.set_cons_zero])
    apply seq_op (V := .bool ((decide (a1.op < 0)) || (decide (a1.op ≥ (u1.ops.length : Int))))) rfl
    · intro Φ hΦ; refine G_or _ _ _ rfl rfl rfl rfl ?_; exact hΦ
    (try simp only [Act.put, List.setIfInBounds_toArray, List.set_cons_succ, List.set_cons_zero])
    apply seq_op (V := .bool ((decide (a1.op < 0)) || (decide (a1.op ≥ (u1.ops.length : Int))))) rfl
    · intro Φ hΦ; refine O_mv rfl rfl ?_; exact hΦ
    (try simp only [Act.put, List.setIfInBounds_toArray, List.set_cons_succ, List.set_cons_zero])
    refine seq_opw (V := .slice (some ⟨be1, oe1, none⟩) u1.ops.length cr10_4) ((wanted_f rfl rfl rfl).trans (congrArg not hg1)) ?_ ?_
    · intro Φ hΦ; refine L_1 0 _ _ rfl (Try.isAgg28 _) rfl H rfl rfl ?_; exact hΦ
    (try simp only [Act.put, List.setIfInBounds_toArray, List.set_cons_succ, List.set_cons_zero])
    refine seq_opw (V := .pointer (some ⟨b3, 1, none⟩)) ((wanted_f rfl rfl rfl).trans (congrArg not hg1)) ?_ ?_
    · intro Φ hΦ; refine O_fld rfl Try.underlying41 rfl (Try.sizeOf3 _) rfl ?_; exact hΦ
    (try simp only [Act.put, List.setIfInBounds_toArray, List.set_cons_succ, List.set_cons_zero])
    refine seq_opw (V := .int .i64 a1.op) ((wanted_f rfl rfl rfl).trans (congrArg not hg1)) ?_ ?_
    · intro Φ hΦ; refine L_1 1 _ _ rfl (Try.isAgg3 _) rfl H rfl rfl ?_; exact hΦ
    (try simp only [Act.put, List.setIfInBounds_toArray, List.set_cons_succ, List.set_cons_zero])
    refine seq_opw (V := .pointer (some ⟨be1, oe1 + kk1 * 6, none⟩)) ((wanted_f rfl rfl rfl).trans (congrArg not hg1)) ?_ ?_
    · intro Φ hΦ; refine O_ix rfl Try.underlying28 (Try.sizeOf35 _) rfl rfl gk1 gl1 ?_; exact hΦ
    (try simp only [Act.put, List.setIfInBounds_toArray, List.set_cons_succ, List.set_cons_zero])
    refine seq_opw (V := .agg #[.int .i64 u2.kind, .string u2.key, .int .i64 u2.value, .slice A3e1 u2.list.length c3e1, .bool u2.has, .bool u2.isNil]) ((wanted_f rfl rfl rfl).trans (congrArg not hg1)) ?_ ?_
    · intro Φ hΦ; refine G_sN _ _ rfl (Try.isAgg35 _) rfl H hCe1 (Try.sizeOf35 _) ?_; exact hΦ
    (try simp only [Act.put, List.setIfInBounds_toArray, List.set_cons_succ, List.set_cons_zero])
    refine seq_callw ((wanted_f rfl rfl rfl).trans (congrArg not hg1)) (fun Φ hΦ => by refine O_call1 rfl Try.func61 rfl rfl rfl hΦ) (table_writes_w (a0 := u2) (h_p0_list := h3e1) (H := H)) ?_
    clear H
    rintro e w1 ⟨rfl, H⟩; refine ⟨_, rfl, ?_⟩
    (try simp only [Act.put, List.setIfInBounds_toArray, List.set_cons_succ, List.set_cons_zero])
    refine seq_opw (V := .bool (!(table_writes_f u2))) ((wanted_f rfl rfl rfl).trans (congrArg not hg1)) ?_ ?_
    · intro Φ hΦ; refine O_not rfl rfl ?_; exact hΦ
    (try simp only [Act.put, List.setIfInBounds_toArray, List.set_cons_succ, List.set_cons_zero])
    apply seq_op (V := .bool (!(table_writes_f u2))) rfl
    · intro Φ hΦ; refine O_pickF rfl rfl hg1 rfl ?_; exact hΦ
    (try simp only [Act.put, List.setIfInBounds_toArray, List.set_cons_succ, List.set_cons_zero])
    refine list_end ?_
    refine then_norm ?_
    refine wp_cond_split rfl (fun hc => ?_) (fun hc => ?_)
    · have hc1 := hc
      clear hc
      replace hm := ifT hc1 hm
      refine wp_seq ?_
      refine wp_region_lit ?_
      apply seq_op (V := .bool false) rfl
      · intro Φ hΦ; refine O_as rfl rfl ?_; exact hΦ
      (try simp only [Act.put, List.setIfInBounds_toArray, List.set_cons_succ, List.set_cons_zero])
      refine list_end ?_
      refine then_norm ?_
      refine wp_ret ?_
      refine then_ret ?_
      have hm := Option.some.inj hm
      subst hm
      replace H := H.dropAt 1 rfl; simp only [List.eraseIdx_cons_succ, List.eraseIdx_cons_zero] at H
      replace H := H.dropAt 0 rfl; simp only [List.eraseIdx_cons_succ, List.eraseIdx_cons_zero] at H
      replace H := H.forget hS
      exact ret1 rfl (rv_tmp rfl) rfl ⟨rfl, H⟩
    · have hc1 := hc
      clear hc
      replace hm := ifF hc1 hm
      refine wp_skip ?_
      refine then_norm ?_
      refine wp_seq ?_
      obtain ⟨u3, gx3, hm⟩ := bs hm
      obtain ⟨kq1, Aq1, cq1, hiq1, hkq1, hAq1, hnq1, hcq1, hsq1⟩ := slI_sl hr10_4 gx3
      obtain ⟨u4, gx4, hm⟩ := bs hm
      refine wp_region_lit ?_
      apply seq_op (V := .slice (some ⟨be1, oe1, none⟩) u1.ops.length cr10_4) rfl
      · intro Φ hΦ; refine L_1 0 _ _ rfl (Try.isAgg28 _) rfl H rfl rfl ?_; exact hΦ
      (try simp only [Act.put, List.setIfInBounds_toArray, List.set_cons_succ, List.set_cons_zero])
      apply seq_op (V := .pointer (some ⟨b3, 1, none⟩)) rfl
      · intro Φ hΦ; refine O_fld rfl Try.underlying41 rfl (Try.sizeOf3 _) rfl ?_; exact hΦ
      (try simp only [Act.put, List.setIfInBounds_toArray, List.set_cons_succ, List.set_cons_zero])
      apply seq_op (V := .int .i64 a1.op) rfl
      · intro Φ hΦ; refine L_1 1 _ _ rfl (Try.isAgg3 _) rfl H rfl rfl ?_; exact hΦ
      (try simp only [Act.put, List.setIfInBounds_toArray, List.set_cons_succ, List.set_cons_zero])
      apply seq_op (V := .int .i64 (IntKind.i64.wrap (a1.op + 1))) rfl
      · intro Φ hΦ; refine O_bin rfl rfl rfl eqg_int r_add ?_; exact hΦ
      (try simp only [Act.put, List.setIfInBounds_toArray, List.set_cons_succ, List.set_cons_zero])
      apply seq_op (V := .slice Aq1 u3.length cq1) rfl
      · intro Φ hΦ; refine O_slI kOp_at rfl rfl rfl hiq1 hkq1 hAq1 hnq1 hcq1 ?_; exact hΦ
      (try simp only [Act.put, List.setIfInBounds_toArray, List.set_cons_succ, List.set_cons_zero])
      apply seq_op (V := .func (.func 64) #[] #[.pointer (some ⟨b5, 0, none⟩), .pointer (some ⟨b3, 0, none⟩)]) rfl
      · intro Φ hΦ; refine O_mkf (vs := #[.pointer (some ⟨b5, 0, none⟩), .pointer (some ⟨b3, 0, none⟩)]) rfl (by (simp only [List.map_toArray, List.map_cons, List.map_nil]) <;> rfl) ?_; exact hΦ
      (try simp only [Act.put, List.setIfInBounds_toArray, List.set_cons_succ, List.set_cons_zero])
      refine seq_opH (V := .bool u4) H rfl ?_ ?_
      · intro Φ hΦ; refine O_call2 rfl Try.func19 rfl rfl rfl rfl ?_; obtain ⟨sl0, hsl0, hb0, H, bk0, bg0⟩ := lendAt 0 rfl H; simp only [List.eraseIdx_cons_succ, List.eraseIdx_cons_zero, List.cons_append] at H bk0; obtain ⟨sl1, hsl1, hb1, H, bk1, bg1⟩ := lendAt 0 rfl H; simp only [List.eraseIdx_cons_succ, List.eraseIdx_cons_zero, List.cons_append] at H bk1; refine (slices_ContainsFunc_Op_table_Table_Final_1_w (a0 := u3) (h_p0 := (hsq1.mono (hsl0.trans hsl1))) (a1c0 := u1.ops) (hC_p1c0 := ((Cells.ofB hb0).mono hsl1)) (h_p1c0 := (hr10_4.mono (hsl0.trans hsl1))) (a1c1 := a1) (hC_p1c1 := (Cells.ofB hb1)) (hm := gx4) (H := H)).mono ?_; rintro e w2 ⟨rfl, H⟩; have H := bk1 H; have H := bk0 H; exact ⟨_, rfl, hΦ _ H⟩
      clear H; intro w1 H
      (try simp only [Act.put, List.setIfInBounds_toArray, List.set_cons_succ, List.set_cons_zero])
      apply seq_op (V := .bool (!u4)) rfl
      · intro Φ hΦ; refine O_not rfl rfl ?_; exact hΦ
      (try simp only [Act.put, List.setIfInBounds_toArray, List.set_cons_succ, List.set_cons_zero])
      apply seq_op (V := .bool (!u4)) rfl
      · intro Φ hΦ; refine O_as rfl rfl ?_; exact hΦ
      (try simp only [Act.put, List.setIfInBounds_toArray, List.set_cons_succ, List.set_cons_zero])
      refine list_end ?_
      refine then_norm ?_
      refine wp_ret ?_
      have hm := Option.some.inj hm
      subst hm
      replace H := H.dropAt 1 rfl; simp only [List.eraseIdx_cons_succ, List.eraseIdx_cons_zero] at H
      replace H := H.dropAt 0 rfl; simp only [List.eraseIdx_cons_succ, List.eraseIdx_cons_zero] at H
      replace H := H.forget hS
      exact ret1 rfl (rv_tmp rfl) rfl ⟨rfl, H⟩
end Go.Proofs.Ytemdmpgekegfhaa
