/- Walks, printed by fx.py: part 1. -/
import Derived.Test.YtemdmpgekegfhaaDoorRfb1
import Derived.Test.YtemdmpgekegfhaaDoorTx1
namespace Go.Proofs.YtemdmpgekegfhaaDoor
open Go.RowKit
set_option linter.all false
set_option maxRecDepth 10000
def assayerlaw16_behind_f (fuel : Nat) (a0 : List Op') : Option (MSt × St16) := (model_State_Apply_f model_New_f a0 true).bind fun u1 => (assayerref16_State_Apply_f fuel (⟨[]⟩ : St16) a0 true).bind fun u2 => some ((⟨u1.2.lists, u1.2.regs⟩ : MSt), (⟨u2.2.l⟩ : St16))

set_option maxHeartbeats 4000000 in
theorem assayerlaw16_behind_w {E : World} {s : SH} {L : List HP} {w : World} {fuel : Nat} {a0 : List Op'} {A_p0 : Option Addr} {c_p0 : Nat} (h_p0 : kOp.Sl s (.slice A_p0 a0.length c_p0) a0) {R : MSt × St16} (hm : assayerlaw16_behind_f fuel a0 = some R) (H : Holds E s (L) w) :
    Calls Tryd.prog 38 #[.slice A_p0 a0.length c_p0] w fun e w' => ∃ b0 r0_lists r0_regs b1 A1_l c1_l n1_l, e = .returned (.tuple #[.pointer (some ⟨b0, 0, none⟩), .pointer (some ⟨b1, 0, none⟩)]) ∧ Holds E s (pt b0 (.cells #[.map (some r0_lists), .map (some r0_regs)] 91 (0, 0)) :: mpO kcS kI s r0_lists R.1.lists :: mpF kcS vcI r0_regs R.1.regs :: pt b1 (.cells #[.slice A1_l n1_l c1_l] 143 (0, 0)) :: (kOp.sh s).Osl (.slice A1_l n1_l c1_l) R.2.l :: L) w' := by
  unfold assayerlaw16_behind_f at hm
  go_enter Tryd.func38, Tryd.ntmps38
  refine wp_seq ?_
  refine wp_region_lit ?_
  apply seq_op (V := .pointer none) rfl
  · exact fun _ h => O_as rfl rfl h
  (try simp only [PT])
  apply seq_op (V := .pointer none) rfl
  · exact fun _ h => O_as rfl rfl h
  (try simp only [PT])
  refine list_end ?_
  refine then_norm ?_
  refine wp_seq ?_
  refine wp_region_lit ?_
  refine seq_call rfl (fun Φ hΦ => by refine O_call0 rfl Tryd.func46 rfl rfl  hΦ) (model_New_w  (H := H)) ?_
  clear H
  rintro e w1 ⟨br10, rr10_lists, rr10_regs, rfl, H⟩; refine ⟨_, rfl, ?_⟩
  (try simp only [PT])
  apply seq_op (V := .agg #[.slice none 0 0]) rfl
  · exact fun _ h => O_bld (cs := [.slice none 0 0]) rfl (by kernel_rfl) h
  (try simp only [PT])
  refine OpG.list rfl ?_; refine B_x 143 _ rfl (v := .agg #[.slice none 0 0]) rfl H ?_; clear H; intro b8 w1 H; (try simp only [Value.cells] at H)
  (try simp only [PT])
  replace H := Kin.Osl.nil (d := kOp.sh s) H
  apply seq_op (V := .pointer (some ⟨br10, 0, none⟩)) rfl
  · exact fun _ h => O_as rfl rfl h
  (try simp only [PT])
  apply seq_op (V := .pointer (some ⟨b8, 0, none⟩)) rfl
  · exact fun _ h => O_as rfl rfl h
  (try simp only [PT])
  refine list_end ?_
  refine then_norm ?_
  refine wp_seq ?_
  obtain ⟨u1, gx1, hm⟩ := bs hm
  refine wp_region_lit ?_
  apply seq_op (V := .pointer (some ⟨br10, 0, none⟩)) rfl
  · exact fun _ h => O_mv rfl rfl h
  (try simp only [PT])
  apply seq_op (V := .slice A_p0 a0.length c_p0) rfl
  · exact fun _ h => O_mv rfl rfl h
  (try simp only [PT])
  replace H := H.front 4 rfl; simp only [List.eraseIdx_cons_succ, List.eraseIdx_cons_zero] at H
  replace H := H.front 4 rfl; simp only [List.eraseIdx_cons_succ, List.eraseIdx_cons_zero] at H
  replace H := H.front 4 rfl; simp only [List.eraseIdx_cons_succ, List.eraseIdx_cons_zero] at H
  refine seq_call rfl (fun Φ hΦ => by refine O_call3 rfl Tryd.func42 rfl rfl rfl rfl rfl hΦ) (model_State_Apply_w (a0 := model_New_f) (a1 := a0) (h_p1 := h_p0) (a2 := true) (hm := gx1) (H := H)) ?_
  clear H
  rintro e w1 ⟨rr2o0_lists, rr2o0_regs, rfl, H⟩; refine ⟨_, rfl, ?_⟩
  (try simp only [PT])
  refine list_end ?_
  refine then_norm ?_
  refine wp_seq ?_
  obtain ⟨u2, gx2, hm⟩ := bs hm
  refine wp_region_lit ?_
  apply seq_op (V := .pointer (some ⟨b8, 0, none⟩)) rfl
  · exact fun _ h => O_mv rfl rfl h
  (try simp only [PT])
  apply seq_op (V := .slice A_p0 a0.length c_p0) rfl
  · exact fun _ h => O_mv rfl rfl h
  (try simp only [PT])
  replace H := H.front 3 rfl; simp only [List.eraseIdx_cons_succ, List.eraseIdx_cons_zero] at H
  replace H := H.front 4 rfl; simp only [List.eraseIdx_cons_succ, List.eraseIdx_cons_zero] at H
  refine seq_call rfl (fun Φ hΦ => by refine O_call3 rfl Tryd.func43 rfl rfl rfl rfl rfl hΦ) (assayerref16_State_Apply_w (fuel := fuel) (a0 := (⟨[]⟩ : St16)) (a1 := a0) (h_p1 := h_p0) (a2 := true) (hm := gx2) (H := H)) ?_
  clear H
  rintro e w1 ⟨Ar3o0_l, cr3o0_l, nr3o0_l, rfl, H⟩; refine ⟨_, rfl, ?_⟩
  obtain rfl := osl_len 1 H rfl
  (try simp only [PT])
  refine list_end ?_
  refine then_norm ?_
  refine wp_seq ?_
  refine wp_region_lit ?_
  apply seq_op (V := .pointer (some ⟨br10, 0, none⟩)) rfl
  · exact fun _ h => O_mv rfl rfl h
  (try simp only [PT])
  apply seq_op (V := .pointer (some ⟨b8, 0, none⟩)) rfl
  · exact fun _ h => O_mv rfl rfl h
  (try simp only [PT])
  apply seq_op (V := .pointer (some ⟨br10, 0, none⟩)) rfl
  · exact fun _ h => O_as rfl rfl h
  (try simp only [PT])
  apply seq_op (V := .pointer (some ⟨b8, 0, none⟩)) rfl
  · exact fun _ h => O_as rfl rfl h
  (try simp only [PT])
  refine list_end ?_
  refine then_norm ?_
  refine wp_ret ?_
  have hm := Option.some.inj hm
  subst hm
  replace H := H.front 1 rfl; simp only [List.eraseIdx_cons_succ, List.eraseIdx_cons_zero] at H
  replace H := H.front 1 rfl; simp only [List.eraseIdx_cons_succ, List.eraseIdx_cons_zero] at H
  replace H := H.front 4 rfl; simp only [List.eraseIdx_cons_succ, List.eraseIdx_cons_zero] at H
  replace H := H.front 4 rfl; simp only [List.eraseIdx_cons_succ, List.eraseIdx_cons_zero] at H
  replace H := H.front 4 rfl; simp only [List.eraseIdx_cons_succ, List.eraseIdx_cons_zero] at H
  exact ret2 rfl (rv_tmp rfl) (rv_tmp rfl) rfl ⟨br10, rr2o0_lists, rr2o0_regs, b8, Ar3o0_l, cr3o0_l, u2.2.l.length, rfl, H⟩
noncomputable def assayerlaw16_ModelJoins_f (fuel : Nat) (a0 : List Op') (a1 : List Op') (a2 : Int) : Option Bool := (remI .u64 (IntKind.u64.wrap a2) (IntKind.u64.wrap (IntKind.i64.wrap ((a1.length : Int) + 1)))).bind fun u1 => (assayerlaw16_behind_f fuel a0).bind fun u2 => (model_State_Text_f (⟨u2.1.lists, u2.1.regs⟩ : MSt)).bind fun u3 => (sliJ a1 (IntKind.i64.wrap u1)).bind fun u4 => (model_State_Apply_f (⟨u2.1.lists, u2.1.regs⟩ : MSt) u4 false).bind fun u5 => if (!u5.1) = true then ((model_State_Text_f (⟨u5.2.lists, u5.2.regs⟩ : MSt)).bind fun u6 => if (!(u6.toList == u3.toList)) = true then (some false) else (if u5.1 = true then ((sliI a1 (IntKind.i64.wrap u1)).bind fun u7 => (model_State_Apply_f (⟨u5.2.lists, u5.2.regs⟩ : MSt) u7 false).bind fun u8 => (model_State_Apply_f (⟨u2.1.lists, u2.1.regs⟩ : MSt) a1 false).bind fun u9 => if (!(u9.1 == u8.1)) = true then (some false) else (if (!u8.1) = true then ((model_State_Text_f (⟨u9.2.lists, u9.2.regs⟩ : MSt)).bind fun u10 => some (u10.toList == u3.toList)) else ((model_State_Text_f (⟨u8.2.lists, u8.2.regs⟩ : MSt)).bind fun u11 => (model_State_Text_f (⟨u9.2.lists, u9.2.regs⟩ : MSt)).bind fun u12 => if (u11.toList == u12.toList) = true then ((assayerref16_State_Apply_f fuel (⟨u2.2.l⟩ : St16) a1 false).bind fun u13 => some u13.1) else (some false)))) else ((model_State_Apply_f (⟨u2.1.lists, u2.1.regs⟩ : MSt) a1 false).bind fun u7 => if (!(u7.1 == false)) = true then (some false) else (if (!false) = true then ((model_State_Text_f (⟨u7.2.lists, u7.2.regs⟩ : MSt)).bind fun u8 => some (u8.toList == u3.toList)) else ((model_State_Text_f (⟨u7.2.lists, u7.2.regs⟩ : MSt)).bind fun u9 => if (u6.toList == u9.toList) = true then ((assayerref16_State_Apply_f fuel (⟨u2.2.l⟩ : St16) a1 false).bind fun u10 => some u10.1) else (some false)))))) else (if u5.1 = true then ((sliI a1 (IntKind.i64.wrap u1)).bind fun u6 => (model_State_Apply_f (⟨u5.2.lists, u5.2.regs⟩ : MSt) u6 false).bind fun u7 => (model_State_Apply_f (⟨u2.1.lists, u2.1.regs⟩ : MSt) a1 false).bind fun u8 => if (!(u8.1 == u7.1)) = true then (some false) else (if (!u7.1) = true then ((model_State_Text_f (⟨u8.2.lists, u8.2.regs⟩ : MSt)).bind fun u9 => some (u9.toList == u3.toList)) else ((model_State_Text_f (⟨u7.2.lists, u7.2.regs⟩ : MSt)).bind fun u10 => (model_State_Text_f (⟨u8.2.lists, u8.2.regs⟩ : MSt)).bind fun u11 => if (u10.toList == u11.toList) = true then ((assayerref16_State_Apply_f fuel (⟨u2.2.l⟩ : St16) a1 false).bind fun u12 => some u12.1) else (some false)))) else ((model_State_Apply_f (⟨u2.1.lists, u2.1.regs⟩ : MSt) a1 false).bind fun u6 => if (!(u6.1 == false)) = true then (some false) else (if (!false) = true then ((model_State_Text_f (⟨u6.2.lists, u6.2.regs⟩ : MSt)).bind fun u7 => some (u7.toList == u3.toList)) else ((model_State_Text_f (⟨u5.2.lists, u5.2.regs⟩ : MSt)).bind fun u8 => (model_State_Text_f (⟨u6.2.lists, u6.2.regs⟩ : MSt)).bind fun u9 => if (u8.toList == u9.toList) = true then ((assayerref16_State_Apply_f fuel (⟨u2.2.l⟩ : St16) a1 false).bind fun u10 => some u10.1) else (some false)))))

set_option maxHeartbeats 4000000 in
theorem assayerlaw16_ModelJoins_w {E : World} {s : SH} {L : List HP} {w : World} {fuel : Nat} {a0 : List Op'} {a1 : List Op'} {a2 : Int} (h_gv : Pw s) {A_p0 : Option Addr} {c_p0 : Nat} (h_p0 : kOp.Sl s (.slice A_p0 a0.length c_p0) a0) {A_p1 : Option Addr} {c_p1 : Nat} (h_p1 : kOp.Sl s (.slice A_p1 a1.length c_p1) a1) {R : Bool} (hm : assayerlaw16_ModelJoins_f fuel a0 a1 a2 = some R) (H : Holds E s (L) w) :
    Calls Tryd.prog 10 #[.slice A_p0 a0.length c_p0, .slice A_p1 a1.length c_p1, .int .i64 a2] w fun e w' => e = .returned (.bool R) ∧ Holds E s (L) w' := by
  unfold assayerlaw16_ModelJoins_f at hm
  go_enter Tryd.func10, Tryd.ntmps10
  refine wp_seq ?_
  refine wp_region_lit ?_
  apply seq_op (V := .bool false) rfl
  · exact fun _ h => O_as rfl rfl h
  (try simp only [PT])
  refine list_end ?_
  refine then_norm ?_
  refine wp_seq ?_
  obtain ⟨u1, gx1, hm⟩ := bs hm
  refine wp_region_lit ?_
  apply seq_op (V := .int .i64 a2) rfl
  · exact fun _ h => O_mv rfl rfl h
  (try simp only [PT])
  apply seq_op (V := .int .u64 (IntKind.u64.wrap a2)) rfl
  · intro Φ hΦ; refine O_cnv rfl (by rw [Tryd.underlying3]; rfl) Tryd.underlying76 rfl ?_; exact hΦ
  (try simp only [PT])
  apply seq_op (V := .slice A_p1 a1.length c_p1) rfl
  · exact fun _ h => O_mv rfl rfl h
  (try simp only [PT])
  apply seq_op (V := .int .i64 (a1.length : Int)) rfl
  · exact fun _ h => O_len rfl Tryd.underlying71 rfl h
  (try simp only [PT])
  apply seq_op (V := .int .i64 (IntKind.i64.wrap ((a1.length : Int) + 1))) rfl
  · exact fun _ h => O_bin rfl rfl rfl eqg_int r_add h
  (try simp only [PT])
  apply seq_op (V := .int .u64 (IntKind.u64.wrap (IntKind.i64.wrap ((a1.length : Int) + 1)))) rfl
  · intro Φ hΦ; refine O_cnv rfl (by rw [Tryd.underlying3]; rfl) Tryd.underlying76 rfl ?_; exact hΦ
  (try simp only [PT])
  apply seq_op (V := .int .u64 u1) rfl
  · exact fun _ h => O_bin rfl rfl rfl eqg_int (r_rem gx1) h
  (try simp only [PT])
  apply seq_op (V := .int .i64 (IntKind.i64.wrap u1)) rfl
  · intro Φ hΦ; refine O_cnv rfl (by rw [Tryd.underlying76]; rfl) Tryd.underlying3 rfl ?_; exact hΦ
  (try simp only [PT])
  apply seq_op (V := .int .i64 (IntKind.i64.wrap u1)) rfl
  · exact fun _ h => O_as rfl rfl h
  (try simp only [PT])
  refine list_end ?_
  refine then_norm ?_
  refine wp_seq ?_
  obtain ⟨u2, gx2, hm⟩ := bs hm
  refine wp_region_lit ?_
  apply seq_op (V := .slice A_p0 a0.length c_p0) rfl
  · exact fun _ h => O_mv rfl rfl h
  (try simp only [PT])
  refine seq_call rfl (fun Φ hΦ => by refine O_call1 rfl Tryd.func38 rfl rfl rfl hΦ) (assayerlaw16_behind_w (fuel := fuel) (a0 := a0) (h_p0 := h_p0) (hm := gx2) (H := H)) ?_
  clear H
  rintro e w1 ⟨br10, rr10_lists, rr10_regs, br11, Ar11_l, cr11_l, nr11_l, rfl, H⟩; refine ⟨_, rfl, ?_⟩
  obtain rfl := osl_len 4 H rfl
  (try simp only [PT])
  apply seq_op (V := .tuple #[.pointer (some ⟨br10, 0, none⟩), .pointer (some ⟨br11, 0, none⟩)]) rfl
  · exact fun _ h => O_mv rfl rfl h
  (try simp only [PT])
  apply seq_op (V := .pointer (some ⟨br10, 0, none⟩)) rfl
  · exact fun _ h => O_ext rfl rfl rfl h
  (try simp only [PT])
  apply seq_op (V := .pointer (some ⟨br11, 0, none⟩)) rfl
  · exact fun _ h => O_ext rfl rfl rfl h
  (try simp only [PT])
  apply seq_op (V := .pointer (some ⟨br10, 0, none⟩)) rfl
  · exact fun _ h => O_as rfl rfl h
  (try simp only [PT])
  apply seq_op (V := .pointer (some ⟨br11, 0, none⟩)) rfl
  · exact fun _ h => O_as rfl rfl h
  (try simp only [PT])
  refine list_end ?_
  refine then_norm ?_
  refine wp_seq ?_
  refine wp_region_lit ?_
  apply seq_op (V := .slice A_p0 a0.length c_p0) rfl
  · exact fun _ h => O_mv rfl rfl h
  (try simp only [PT])
  refine seq_call rfl (fun Φ hΦ => by refine O_call1 rfl Tryd.func38 rfl rfl rfl hΦ) (assayerlaw16_behind_w (fuel := fuel) (a0 := a0) (h_p0 := h_p0) (hm := gx2) (H := H)) ?_
  clear H
  rintro e w1 ⟨br20, rr20_lists, rr20_regs, br21, Ar21_l, cr21_l, nr21_l, rfl, H⟩; refine ⟨_, rfl, ?_⟩
  obtain rfl := osl_len 4 H rfl
  (try simp only [PT])
  apply seq_op (V := .tuple #[.pointer (some ⟨br20, 0, none⟩), .pointer (some ⟨br21, 0, none⟩)]) rfl
  · exact fun _ h => O_mv rfl rfl h
  (try simp only [PT])
  apply seq_op (V := .pointer (some ⟨br20, 0, none⟩)) rfl
  · exact fun _ h => O_ext rfl rfl rfl h
  (try simp only [PT])
  apply seq_op (V := .pointer (some ⟨br21, 0, none⟩)) rfl
  · exact fun _ h => O_ext rfl rfl rfl h
  (try simp only [PT])
  apply seq_op (V := .pointer (some ⟨br20, 0, none⟩)) rfl
  · exact fun _ h => O_as rfl rfl h
  (try simp only [PT])
  apply seq_op (V := .pointer (some ⟨br21, 0, none⟩)) rfl
  · exact fun _ h => O_as rfl rfl h
  (try simp only [PT])
  refine list_end ?_
  refine then_norm ?_
  refine wp_seq ?_
  refine wp_seq ?_
  refine wp_region_lit ?_
  apply seq_op (V := .pointer (some ⟨br10, 0, none⟩)) rfl
  · exact fun _ h => O_mv rfl rfl h
  (try simp only [PT])
  apply seq_op (V := .bool false) rfl
  · exact fun _ h => O_bin rfl rfl rfl eqg_ptr (r_pnil Tryd.underlying78) h
  (try simp only [PT])
  apply seq_op (V := .bool false) rfl
  · exact fun _ h => O_mv rfl rfl h
  (try simp only [PT])
  refine seq_opw (V := .pointer (some ⟨br20, 0, none⟩)) ((wanted_f rfl rfl rfl).trans (congrArg not rfl)) ?_ ?_
  · exact fun _ h => O_mv rfl rfl h
  (try simp only [PT])
  refine seq_opw (V := .bool false) ((wanted_f rfl rfl rfl).trans (congrArg not rfl)) ?_ ?_
  · exact fun _ h => O_bin rfl rfl rfl eqg_ptr (r_pnil Tryd.underlying78) h
  (try simp only [PT])
  apply seq_op (V := .bool false) rfl
  · exact fun _ h => O_pickF rfl rfl rfl rfl h
  (try simp only [PT])
  refine list_end ?_
  refine then_norm ?_
  refine wp_cond_false rfl ?_
  refine wp_skip ?_
  refine then_norm ?_
  refine wp_seq ?_
  obtain ⟨u3, gx3, hm⟩ := bs hm
  refine wp_region_lit ?_
  apply seq_op (V := .pointer (some ⟨br10, 0, none⟩)) rfl
  · exact fun _ h => O_mv rfl rfl h
  (try simp only [PT])
  refine seq_opH (V := .string u3) H rfl ?_ ?_
  · intro Φ hΦ; refine O_call1 rfl Tryd.func39 rfl rfl rfl ?_; obtain ⟨sl0, hsl0, hb0, H, bk0, bg0⟩ := lendAt 5 rfl H; simp only [List.eraseIdx_cons_succ, List.eraseIdx_cons_zero, List.cons_append] at H bk0; obtain ⟨sl1, hsl1, hb1, H, bk1, bg1⟩ := lendMapO 5 rfl hsl0 H; simp only [List.eraseIdx_cons_succ, List.eraseIdx_cons_zero, List.cons_append] at H bk1; obtain ⟨sl2, hsl2, hb2, H, bk2, bg2⟩ := lendMapF 5 rfl H; simp only [List.eraseIdx_cons_succ, List.eraseIdx_cons_zero, List.cons_append] at H bk2; refine (model_State_Text_w (a0 := (⟨u2.1.lists, u2.1.regs⟩ : MSt)) (hC_p0 := ((Cells.ofB hb0).mono (hsl1.trans hsl2))) (h_p0_lists := (hb1.mono hsl2)) (h_p0_regs := hb2) (h_gv := (h_gv.mono ((hsl0.trans hsl1).trans hsl2))) (hm := gx3) (H := H)).mono ?_; rintro e w2 ⟨rfl, H⟩; have H := bk2 H; have H := bk1 H; have H := bk0 H; exact ⟨_, rfl, hΦ _ H⟩
  clear H; intro w1 H
  (try simp only [PT])
  apply seq_op (V := .string u3) rfl
  · exact fun _ h => O_as rfl rfl h
  (try simp only [PT])
  refine list_end ?_
  refine then_norm ?_
  refine wp_seq ?_
  obtain ⟨u4, gx4, hm⟩ := bs hm
  obtain ⟨kq1, hiq1, hkq1, hnq1, hsq1⟩ := slJ_sl h_p1 gx4
  obtain ⟨u5, gx5, hm⟩ := bs hm
  refine wp_region_lit ?_
  apply seq_op (V := .pointer (some ⟨br10, 0, none⟩)) rfl
  · exact fun _ h => O_mv rfl rfl h
  (try simp only [PT])
  apply seq_op (V := .slice A_p1 a1.length c_p1) rfl
  · exact fun _ h => O_mv rfl rfl h
  (try simp only [PT])
  apply seq_op (V := .int .i64 (IntKind.i64.wrap u1)) rfl
  · exact fun _ h => O_mv rfl rfl h
  (try simp only [PT])
  apply seq_op (V := .slice A_p1 u4.length c_p1) rfl
  · exact fun _ h => O_slJ kOp_at rfl rfl rfl hiq1 hkq1 hnq1 h
  (try simp only [PT])
  replace H := H.front 7 rfl; simp only [List.eraseIdx_cons_succ, List.eraseIdx_cons_zero] at H
  replace H := H.front 7 rfl; simp only [List.eraseIdx_cons_succ, List.eraseIdx_cons_zero] at H
  replace H := H.front 7 rfl; simp only [List.eraseIdx_cons_succ, List.eraseIdx_cons_zero] at H
  refine seq_call rfl (fun Φ hΦ => by refine O_call3 rfl Tryd.func42 rfl rfl rfl rfl rfl hΦ) (model_State_Apply_w (a0 := (⟨u2.1.lists, u2.1.regs⟩ : MSt)) (a1 := u4) (h_p1 := hsq1) (a2 := false) (hm := gx5) (H := H)) ?_
  clear H
  rintro e w1 ⟨rr3o0_lists, rr3o0_regs, rfl, H⟩; refine ⟨_, rfl, ?_⟩
  (try simp only [PT])
  apply seq_op (V := .bool u5.1) rfl
  · exact fun _ h => O_as rfl rfl h
  (try simp only [PT])
  refine list_end ?_
  refine then_norm ?_
  refine wp_seq ?_
  refine wp_seq ?_
  rcases Bool.eq_false_or_eq_true (!u5.1) with hg1 | hg1
  · replace hm := ifT hg1 hm
    obtain ⟨u6, gx6, hm⟩ := bs hm
    refine wp_region_lit ?_
    apply seq_op (V := .bool u5.1) rfl
    · exact fun _ h => O_mv rfl rfl h
    (try simp only [PT])
    apply seq_op (V := .bool (!u5.1)) rfl
    · exact fun _ h => O_not rfl rfl h
    (try simp only [PT])
    apply seq_op (V := .bool (!u5.1)) rfl
    · exact fun _ h => O_mv rfl rfl h
    (try simp only [PT])
    refine seq_opw (V := .pointer (some ⟨br10, 0, none⟩)) ((wanted_t rfl rfl rfl).trans hg1) ?_ ?_
    · exact fun _ h => O_mv rfl rfl h
    (try simp only [PT])
    refine seq_opHw (V := .string u6) H ((wanted_t rfl rfl rfl).trans hg1) ?_ ?_
    · intro Φ hΦ; refine O_call1 rfl Tryd.func39 rfl rfl rfl ?_; obtain ⟨sl0, hsl0, hb0, H, bk0, bg0⟩ := lendAt 0 rfl H; simp only [List.eraseIdx_cons_succ, List.eraseIdx_cons_zero, List.cons_append] at H bk0; obtain ⟨sl1, hsl1, hb1, H, bk1, bg1⟩ := lendMapO 0 rfl hsl0 H; simp only [List.eraseIdx_cons_succ, List.eraseIdx_cons_zero, List.cons_append] at H bk1; obtain ⟨sl2, hsl2, hb2, H, bk2, bg2⟩ := lendMapF 0 rfl H; simp only [List.eraseIdx_cons_succ, List.eraseIdx_cons_zero, List.cons_append] at H bk2; refine (model_State_Text_w (a0 := (⟨u5.2.lists, u5.2.regs⟩ : MSt)) (hC_p0 := ((Cells.ofB hb0).mono (hsl1.trans hsl2))) (h_p0_lists := (hb1.mono hsl2)) (h_p0_regs := hb2) (h_gv := (h_gv.mono ((hsl0.trans hsl1).trans hsl2))) (hm := gx6) (H := H)).mono ?_; rintro e w2 ⟨rfl, H⟩; have H := bk2 H; have H := bk1 H; have H := bk0 H; exact ⟨_, rfl, hΦ _ H⟩
    clear H; intro w1 H
    (try simp only [PT])
    refine seq_opw (V := .string u3) ((wanted_t rfl rfl rfl).trans hg1) ?_ ?_
    · exact fun _ h => O_mv rfl rfl h
    (try simp only [PT])
    refine seq_opw (V := .bool (!(u6.toList == u3.toList))) ((wanted_t rfl rfl rfl).trans hg1) ?_ ?_
    · exact fun _ h => O_bin rfl rfl rfl eqg_str r_sne h
    (try simp only [PT])
    apply seq_op (V := .bool (!(u6.toList == u3.toList))) rfl
    · exact fun _ h => O_pickT rfl rfl hg1 rfl h
    (try simp only [PT])
    refine list_end ?_
    refine then_norm ?_
    refine wp_cond_split rfl (fun hc => ?_) (fun hc => ?_)
    · have hc1 := hc
      clear hc
      replace hm := ifT hc1 hm
      refine wp_seq ?_
      refine wp_region_lit ?_
      apply seq_op (V := .bool false) rfl
      · exact fun _ h => O_as rfl rfl h
      (try simp only [PT])
      refine list_end ?_
      refine then_norm ?_
      refine wp_ret ?_
      refine then_ret ?_
      have hm := Option.some.inj hm
      subst hm
      replace H := H.dropAt 9 rfl; simp only [List.eraseIdx_cons_succ, List.eraseIdx_cons_zero] at H
      replace H := H.dropAt 8 rfl; simp only [List.eraseIdx_cons_succ, List.eraseIdx_cons_zero] at H
      replace H := H.dropAt 7 rfl; simp only [List.eraseIdx_cons_succ, List.eraseIdx_cons_zero] at H
      replace H := H.dropAt 6 rfl; simp only [List.eraseIdx_cons_succ, List.eraseIdx_cons_zero] at H
      replace H := H.dropAt 5 rfl; simp only [List.eraseIdx_cons_succ, List.eraseIdx_cons_zero] at H
      replace H := H.dropAt 4 rfl; simp only [List.eraseIdx_cons_succ, List.eraseIdx_cons_zero] at H
      replace H := H.dropAt 3 rfl; simp only [List.eraseIdx_cons_succ, List.eraseIdx_cons_zero] at H
      replace H := H.dropAt 2 rfl; simp only [List.eraseIdx_cons_succ, List.eraseIdx_cons_zero] at H
      replace H := H.dropAt 1 rfl; simp only [List.eraseIdx_cons_succ, List.eraseIdx_cons_zero] at H
      replace H := H.dropAt 0 rfl; simp only [List.eraseIdx_cons_succ, List.eraseIdx_cons_zero] at H
      exact ret1 rfl (rv_tmp rfl) rfl ⟨rfl, H⟩
    · have hc1 := hc
      clear hc
      replace hm := ifF hc1 hm
      refine wp_skip ?_
      refine then_norm ?_
      refine wp_seq ?_
      rcases Bool.eq_false_or_eq_true u5.1 with hg2 | hg2
      · replace hm := ifT hg2 hm
        obtain ⟨u7, gx7, hm⟩ := bs hm
        obtain ⟨kq2, Aq2, cq2, hiq2, hkq2, hAq2, hnq2, hcq2, hsq2⟩ := slI_sl h_p1 gx7
        obtain ⟨u8, gx8, hm⟩ := bs hm
        refine wp_region_lit ?_
        apply seq_op (V := .bool u5.1) rfl
        · exact fun _ h => O_mv rfl rfl h
        (try simp only [PT])
        apply seq_op (V := .bool u5.1) rfl
        · exact fun _ h => O_mv rfl rfl h
        (try simp only [PT])
        refine seq_opw (V := .pointer (some ⟨br10, 0, none⟩)) ((wanted_t rfl rfl rfl).trans hg2) ?_ ?_
        · exact fun _ h => O_mv rfl rfl h
        (try simp only [PT])
        refine seq_opw (V := .slice A_p1 a1.length c_p1) ((wanted_t rfl rfl rfl).trans hg2) ?_ ?_
        · exact fun _ h => O_mv rfl rfl h
        (try simp only [PT])
        refine seq_opw (V := .int .i64 (IntKind.i64.wrap u1)) ((wanted_t rfl rfl rfl).trans hg2) ?_ ?_
        · exact fun _ h => O_mv rfl rfl h
        (try simp only [PT])
        refine seq_opw (V := .slice Aq2 u7.length cq2) ((wanted_t rfl rfl rfl).trans hg2) ?_ ?_
        · exact fun _ h => O_slI kOp_at rfl rfl rfl hiq2 hkq2 hAq2 hnq2 hcq2 h
        (try simp only [PT])
        replace H := H.front 2 rfl; simp only [List.eraseIdx_cons_succ, List.eraseIdx_cons_zero] at H
        replace H := H.front 2 rfl; simp only [List.eraseIdx_cons_succ, List.eraseIdx_cons_zero] at H
        replace H := H.front 2 rfl; simp only [List.eraseIdx_cons_succ, List.eraseIdx_cons_zero] at H
        refine seq_callw ((wanted_t rfl rfl rfl).trans hg2) (fun Φ hΦ => by refine O_call3 rfl Tryd.func42 rfl rfl rfl rfl rfl hΦ) (model_State_Apply_w (a0 := (⟨u5.2.lists, u5.2.regs⟩ : MSt)) (a1 := u7) (h_p1 := hsq2) (a2 := false) (hm := gx8) (H := H)) ?_
        clear H
        rintro e w1 ⟨rr4o0_lists, rr4o0_regs, rfl, H⟩; refine ⟨_, rfl, ?_⟩
        (try simp only [PT])
        apply seq_op (V := .bool u8.1) rfl
        · exact fun _ h => O_pickT rfl rfl hg2 rfl h
        (try simp only [PT])
        apply seq_op (V := .bool u8.1) rfl
        · exact fun _ h => O_as rfl rfl h
        (try simp only [PT])
        refine list_end ?_
        refine then_norm ?_
        refine wp_seq ?_
        refine wp_seq ?_
        obtain ⟨u9, gx9, hm⟩ := bs hm
        refine wp_region_lit ?_
        apply seq_op (V := .pointer (some ⟨br20, 0, none⟩)) rfl
        · exact fun _ h => O_mv rfl rfl h
        (try simp only [PT])
        apply seq_op (V := .slice A_p1 a1.length c_p1) rfl
        · exact fun _ h => O_mv rfl rfl h
        (try simp only [PT])
        replace H := H.front 5 rfl; simp only [List.eraseIdx_cons_succ, List.eraseIdx_cons_zero] at H
        replace H := H.front 5 rfl; simp only [List.eraseIdx_cons_succ, List.eraseIdx_cons_zero] at H
        replace H := H.front 5 rfl; simp only [List.eraseIdx_cons_succ, List.eraseIdx_cons_zero] at H
        refine seq_call rfl (fun Φ hΦ => by refine O_call3 rfl Tryd.func42 rfl rfl rfl rfl rfl hΦ) (model_State_Apply_w (a0 := (⟨u2.1.lists, u2.1.regs⟩ : MSt)) (a1 := a1) (h_p1 := h_p1) (a2 := false) (hm := gx9) (H := H)) ?_
        clear H
        rintro e w1 ⟨rr5o0_lists, rr5o0_regs, rfl, H⟩; refine ⟨_, rfl, ?_⟩
        (try simp only [PT])
        apply seq_op (V := .bool u8.1) rfl
        · exact fun _ h => O_mv rfl rfl h
        (try simp only [PT])
        apply seq_op (V := .bool (!(u9.1 == u8.1))) rfl
        · exact fun _ h => O_bin rfl rfl rfl eqg_bool (r_bne Tryd.underlying4) h
        (try simp only [PT])
        refine list_end ?_
        refine then_norm ?_
        refine wp_cond_split rfl (fun hc => ?_) (fun hc => ?_)
        · have hc2 := hc
          clear hc
          replace hm := ifT hc2 hm
          refine wp_seq ?_
          refine wp_region_lit ?_
          apply seq_op (V := .bool false) rfl
          · exact fun _ h => O_as rfl rfl h
          (try simp only [PT])
          refine list_end ?_
          refine then_norm ?_
          refine wp_ret ?_
          refine then_ret ?_
          have hm := Option.some.inj hm
          subst hm
          replace H := H.dropAt 9 rfl; simp only [List.eraseIdx_cons_succ, List.eraseIdx_cons_zero] at H
          replace H := H.dropAt 8 rfl; simp only [List.eraseIdx_cons_succ, List.eraseIdx_cons_zero] at H
          replace H := H.dropAt 7 rfl; simp only [List.eraseIdx_cons_succ, List.eraseIdx_cons_zero] at H
          replace H := H.dropAt 6 rfl; simp only [List.eraseIdx_cons_succ, List.eraseIdx_cons_zero] at H
          replace H := H.dropAt 5 rfl; simp only [List.eraseIdx_cons_succ, List.eraseIdx_cons_zero] at H
          replace H := H.dropAt 4 rfl; simp only [List.eraseIdx_cons_succ, List.eraseIdx_cons_zero] at H
          replace H := H.dropAt 3 rfl; simp only [List.eraseIdx_cons_succ, List.eraseIdx_cons_zero] at H
          replace H := H.dropAt 2 rfl; simp only [List.eraseIdx_cons_succ, List.eraseIdx_cons_zero] at H
          replace H := H.dropAt 1 rfl; simp only [List.eraseIdx_cons_succ, List.eraseIdx_cons_zero] at H
          replace H := H.dropAt 0 rfl; simp only [List.eraseIdx_cons_succ, List.eraseIdx_cons_zero] at H
          exact ret1 rfl (rv_tmp rfl) rfl ⟨rfl, H⟩
        · have hc2 := hc
          clear hc
          replace hm := ifF hc2 hm
          refine wp_skip ?_
          refine then_norm ?_
          refine wp_seq ?_
          refine wp_seq ?_
          refine wp_region_lit ?_
          apply seq_op (V := .bool u8.1) rfl
          · exact fun _ h => O_mv rfl rfl h
          (try simp only [PT])
          apply seq_op (V := .bool (!u8.1)) rfl
          · exact fun _ h => O_not rfl rfl h
          (try simp only [PT])
          refine list_end ?_
          refine then_norm ?_
          refine wp_cond_split rfl (fun hc => ?_) (fun hc => ?_)
          · have hc3 := hc
            clear hc
            replace hm := ifT hc3 hm
            refine wp_seq ?_
            obtain ⟨u10, gx10, hm⟩ := bs hm
            refine wp_region_lit ?_
            apply seq_op (V := .pointer (some ⟨br20, 0, none⟩)) rfl
            · exact fun _ h => O_mv rfl rfl h
            (try simp only [PT])
            refine seq_opH (V := .string u10) H rfl ?_ ?_
            · intro Φ hΦ; refine O_call1 rfl Tryd.func39 rfl rfl rfl ?_; obtain ⟨sl0, hsl0, hb0, H, bk0, bg0⟩ := lendAt 0 rfl H; simp only [List.eraseIdx_cons_succ, List.eraseIdx_cons_zero, List.cons_append] at H bk0; obtain ⟨sl1, hsl1, hb1, H, bk1, bg1⟩ := lendMapO 0 rfl hsl0 H; simp only [List.eraseIdx_cons_succ, List.eraseIdx_cons_zero, List.cons_append] at H bk1; obtain ⟨sl2, hsl2, hb2, H, bk2, bg2⟩ := lendMapF 0 rfl H; simp only [List.eraseIdx_cons_succ, List.eraseIdx_cons_zero, List.cons_append] at H bk2; refine (model_State_Text_w (a0 := (⟨u9.2.lists, u9.2.regs⟩ : MSt)) (hC_p0 := ((Cells.ofB hb0).mono (hsl1.trans hsl2))) (h_p0_lists := (hb1.mono hsl2)) (h_p0_regs := hb2) (h_gv := (h_gv.mono ((hsl0.trans hsl1).trans hsl2))) (hm := gx10) (H := H)).mono ?_; rintro e w2 ⟨rfl, H⟩; have H := bk2 H; have H := bk1 H; have H := bk0 H; exact ⟨_, rfl, hΦ _ H⟩
            clear H; intro w1 H
            (try simp only [PT])
            apply seq_op (V := .string u3) rfl
            · exact fun _ h => O_mv rfl rfl h
            (try simp only [PT])
            apply seq_op (V := .bool (u10.toList == u3.toList)) rfl
            · exact fun _ h => O_bin rfl rfl rfl eqg_str r_seq h
            (try simp only [PT])
            apply seq_op (V := .bool (u10.toList == u3.toList)) rfl
            · exact fun _ h => O_as rfl rfl h
            (try simp only [PT])
            refine list_end ?_
            refine then_norm ?_
            refine wp_ret ?_
            refine then_ret ?_
            have hm := Option.some.inj hm
            subst hm
            replace H := H.dropAt 9 rfl; simp only [List.eraseIdx_cons_succ, List.eraseIdx_cons_zero] at H
            replace H := H.dropAt 8 rfl; simp only [List.eraseIdx_cons_succ, List.eraseIdx_cons_zero] at H
            replace H := H.dropAt 7 rfl; simp only [List.eraseIdx_cons_succ, List.eraseIdx_cons_zero] at H
            replace H := H.dropAt 6 rfl; simp only [List.eraseIdx_cons_succ, List.eraseIdx_cons_zero] at H
            replace H := H.dropAt 5 rfl; simp only [List.eraseIdx_cons_succ, List.eraseIdx_cons_zero] at H
            replace H := H.dropAt 4 rfl; simp only [List.eraseIdx_cons_succ, List.eraseIdx_cons_zero] at H
            replace H := H.dropAt 3 rfl; simp only [List.eraseIdx_cons_succ, List.eraseIdx_cons_zero] at H
            replace H := H.dropAt 2 rfl; simp only [List.eraseIdx_cons_succ, List.eraseIdx_cons_zero] at H
            replace H := H.dropAt 1 rfl; simp only [List.eraseIdx_cons_succ, List.eraseIdx_cons_zero] at H
            replace H := H.dropAt 0 rfl; simp only [List.eraseIdx_cons_succ, List.eraseIdx_cons_zero] at H
            exact ret1 rfl (rv_tmp rfl) rfl ⟨rfl, H⟩
          · have hc3 := hc
            clear hc
            replace hm := ifF hc3 hm
            refine wp_skip ?_
            refine then_norm ?_
            refine wp_seq ?_
            obtain ⟨u11, gx11, hm⟩ := bs hm
            obtain ⟨u12, gx12, hm⟩ := bs hm
            rcases Bool.eq_false_or_eq_true (u11.toList == u12.toList) with hg3 | hg3
            · replace hm := ifT hg3 hm
              obtain ⟨u13, gx13, hm⟩ := bs hm
              refine wp_region_lit ?_
              apply seq_op (V := .pointer (some ⟨br10, 0, none⟩)) rfl
              · exact fun _ h => O_mv rfl rfl h
              (try simp only [PT])
              refine seq_opH (V := .string u11) H rfl ?_ ?_
              · intro Φ hΦ; refine O_call1 rfl Tryd.func39 rfl rfl rfl ?_; obtain ⟨sl0, hsl0, hb0, H, bk0, bg0⟩ := lendAt 3 rfl H; simp only [List.eraseIdx_cons_succ, List.eraseIdx_cons_zero, List.cons_append] at H bk0; obtain ⟨sl1, hsl1, hb1, H, bk1, bg1⟩ := lendMapO 3 rfl hsl0 H; simp only [List.eraseIdx_cons_succ, List.eraseIdx_cons_zero, List.cons_append] at H bk1; obtain ⟨sl2, hsl2, hb2, H, bk2, bg2⟩ := lendMapF 3 rfl H; simp only [List.eraseIdx_cons_succ, List.eraseIdx_cons_zero, List.cons_append] at H bk2; refine (model_State_Text_w (a0 := (⟨u8.2.lists, u8.2.regs⟩ : MSt)) (hC_p0 := ((Cells.ofB hb0).mono (hsl1.trans hsl2))) (h_p0_lists := (hb1.mono hsl2)) (h_p0_regs := hb2) (h_gv := (h_gv.mono ((hsl0.trans hsl1).trans hsl2))) (hm := gx11) (H := H)).mono ?_; rintro e w2 ⟨rfl, H⟩; have H := bk2 H; have H := bk1 H; have H := bk0 H; exact ⟨_, rfl, hΦ _ H⟩
              clear H; intro w1 H
              (try simp only [PT])
              apply seq_op (V := .pointer (some ⟨br20, 0, none⟩)) rfl
              · exact fun _ h => O_mv rfl rfl h
              (try simp only [PT])
              refine seq_opH (V := .string u12) H rfl ?_ ?_
              · intro Φ hΦ; refine O_call1 rfl Tryd.func39 rfl rfl rfl ?_; obtain ⟨sl0, hsl0, hb0, H, bk0, bg0⟩ := lendAt 0 rfl H; simp only [List.eraseIdx_cons_succ, List.eraseIdx_cons_zero, List.cons_append] at H bk0; obtain ⟨sl1, hsl1, hb1, H, bk1, bg1⟩ := lendMapO 0 rfl hsl0 H; simp only [List.eraseIdx_cons_succ, List.eraseIdx_cons_zero, List.cons_append] at H bk1; obtain ⟨sl2, hsl2, hb2, H, bk2, bg2⟩ := lendMapF 0 rfl H; simp only [List.eraseIdx_cons_succ, List.eraseIdx_cons_zero, List.cons_append] at H bk2; refine (model_State_Text_w (a0 := (⟨u9.2.lists, u9.2.regs⟩ : MSt)) (hC_p0 := ((Cells.ofB hb0).mono (hsl1.trans hsl2))) (h_p0_lists := (hb1.mono hsl2)) (h_p0_regs := hb2) (h_gv := (h_gv.mono ((hsl0.trans hsl1).trans hsl2))) (hm := gx12) (H := H)).mono ?_; rintro e w2 ⟨rfl, H⟩; have H := bk2 H; have H := bk1 H; have H := bk0 H; exact ⟨_, rfl, hΦ _ H⟩
              clear H; intro w1 H
              (try simp only [PT])
              apply seq_op (V := .bool (u11.toList == u12.toList)) rfl
              · exact fun _ h => O_bin rfl rfl rfl eqg_str r_seq h
              (try simp only [PT])
              apply seq_op (V := .bool (u11.toList == u12.toList)) rfl
              · exact fun _ h => O_mv rfl rfl h
              (try simp only [PT])
              refine seq_opw (V := .pointer (some ⟨br11, 0, none⟩)) ((wanted_t rfl rfl rfl).trans hg3) ?_ ?_
              · exact fun _ h => O_mv rfl rfl h
              (try simp only [PT])
              refine seq_opw (V := .slice A_p1 a1.length c_p1) ((wanted_t rfl rfl rfl).trans hg3) ?_ ?_
              · exact fun _ h => O_mv rfl rfl h
              (try simp only [PT])
              replace H := H.front 9 rfl; simp only [List.eraseIdx_cons_succ, List.eraseIdx_cons_zero] at H
              replace H := H.front 9 rfl; simp only [List.eraseIdx_cons_succ, List.eraseIdx_cons_zero] at H
              refine seq_callw ((wanted_t rfl rfl rfl).trans hg3) (fun Φ hΦ => by refine O_call3 rfl Tryd.func43 rfl rfl rfl rfl rfl hΦ) (assayerref16_State_Apply_w (fuel := fuel) (a0 := (⟨u2.2.l⟩ : St16)) (a1 := a1) (h_p1 := h_p1) (a2 := false) (hm := gx13) (H := H)) ?_
              clear H
              rintro e w1 ⟨Ar6o0_l, cr6o0_l, nr6o0_l, rfl, H⟩; refine ⟨_, rfl, ?_⟩
              obtain rfl := osl_len 1 H rfl
              (try simp only [PT])
              apply seq_op (V := .bool u13.1) rfl
              · exact fun _ h => O_pickT rfl rfl hg3 rfl h
              (try simp only [PT])
              apply seq_op (V := .bool u13.1) rfl
              · exact fun _ h => O_as rfl rfl h
              (try simp only [PT])
              refine list_end ?_
              refine then_norm ?_
              refine wp_ret ?_
              have hm := Option.some.inj hm
              subst hm
              replace H := H.dropAt 9 rfl; simp only [List.eraseIdx_cons_succ, List.eraseIdx_cons_zero] at H
              replace H := H.dropAt 8 rfl; simp only [List.eraseIdx_cons_succ, List.eraseIdx_cons_zero] at H
              replace H := H.dropAt 7 rfl; simp only [List.eraseIdx_cons_succ, List.eraseIdx_cons_zero] at H
              replace H := H.dropAt 6 rfl; simp only [List.eraseIdx_cons_succ, List.eraseIdx_cons_zero] at H
              replace H := H.dropAt 5 rfl; simp only [List.eraseIdx_cons_succ, List.eraseIdx_cons_zero] at H
              replace H := H.dropAt 4 rfl; simp only [List.eraseIdx_cons_succ, List.eraseIdx_cons_zero] at H
              replace H := H.dropAt 3 rfl; simp only [List.eraseIdx_cons_succ, List.eraseIdx_cons_zero] at H
              replace H := H.dropAt 2 rfl; simp only [List.eraseIdx_cons_succ, List.eraseIdx_cons_zero] at H
              replace H := H.dropAt 1 rfl; simp only [List.eraseIdx_cons_succ, List.eraseIdx_cons_zero] at H
              replace H := H.dropAt 0 rfl; simp only [List.eraseIdx_cons_succ, List.eraseIdx_cons_zero] at H
              exact ret1 rfl (rv_tmp rfl) rfl ⟨rfl, H⟩
            · replace hm := ifF hg3 hm
              refine wp_region_lit ?_
              apply seq_op (V := .pointer (some ⟨br10, 0, none⟩)) rfl
              · exact fun _ h => O_mv rfl rfl h
              (try simp only [PT])
              refine seq_opH (V := .string u11) H rfl ?_ ?_
              · intro Φ hΦ; refine O_call1 rfl Tryd.func39 rfl rfl rfl ?_; obtain ⟨sl0, hsl0, hb0, H, bk0, bg0⟩ := lendAt 3 rfl H; simp only [List.eraseIdx_cons_succ, List.eraseIdx_cons_zero, List.cons_append] at H bk0; obtain ⟨sl1, hsl1, hb1, H, bk1, bg1⟩ := lendMapO 3 rfl hsl0 H; simp only [List.eraseIdx_cons_succ, List.eraseIdx_cons_zero, List.cons_append] at H bk1; obtain ⟨sl2, hsl2, hb2, H, bk2, bg2⟩ := lendMapF 3 rfl H; simp only [List.eraseIdx_cons_succ, List.eraseIdx_cons_zero, List.cons_append] at H bk2; refine (model_State_Text_w (a0 := (⟨u8.2.lists, u8.2.regs⟩ : MSt)) (hC_p0 := ((Cells.ofB hb0).mono (hsl1.trans hsl2))) (h_p0_lists := (hb1.mono hsl2)) (h_p0_regs := hb2) (h_gv := (h_gv.mono ((hsl0.trans hsl1).trans hsl2))) (hm := gx11) (H := H)).mono ?_; rintro e w2 ⟨rfl, H⟩; have H := bk2 H; have H := bk1 H; have H := bk0 H; exact ⟨_, rfl, hΦ _ H⟩
              clear H; intro w1 H
              (try simp only [PT])
              apply seq_op (V := .pointer (some ⟨br20, 0, none⟩)) rfl
              · exact fun _ h => O_mv rfl rfl h
              (try simp only [PT])
              refine seq_opH (V := .string u12) H rfl ?_ ?_
              · intro Φ hΦ; refine O_call1 rfl Tryd.func39 rfl rfl rfl ?_; obtain ⟨sl0, hsl0, hb0, H, bk0, bg0⟩ := lendAt 0 rfl H; simp only [List.eraseIdx_cons_succ, List.eraseIdx_cons_zero, List.cons_append] at H bk0; obtain ⟨sl1, hsl1, hb1, H, bk1, bg1⟩ := lendMapO 0 rfl hsl0 H; simp only [List.eraseIdx_cons_succ, List.eraseIdx_cons_zero, List.cons_append] at H bk1; obtain ⟨sl2, hsl2, hb2, H, bk2, bg2⟩ := lendMapF 0 rfl H; simp only [List.eraseIdx_cons_succ, List.eraseIdx_cons_zero, List.cons_append] at H bk2; refine (model_State_Text_w (a0 := (⟨u9.2.lists, u9.2.regs⟩ : MSt)) (hC_p0 := ((Cells.ofB hb0).mono (hsl1.trans hsl2))) (h_p0_lists := (hb1.mono hsl2)) (h_p0_regs := hb2) (h_gv := (h_gv.mono ((hsl0.trans hsl1).trans hsl2))) (hm := gx12) (H := H)).mono ?_; rintro e w2 ⟨rfl, H⟩; have H := bk2 H; have H := bk1 H; have H := bk0 H; exact ⟨_, rfl, hΦ _ H⟩
              clear H; intro w1 H
              (try simp only [PT])
              apply seq_op (V := .bool (u11.toList == u12.toList)) rfl
              · exact fun _ h => O_bin rfl rfl rfl eqg_str r_seq h
              (try simp only [PT])
              apply seq_op (V := .bool (u11.toList == u12.toList)) rfl
              · exact fun _ h => O_mv rfl rfl h
              (try simp only [PT])
              refine seq_skip ((wanted_t rfl rfl rfl).trans hg3) ?_
              (try simp only [PT])
              refine seq_skip ((wanted_t rfl rfl rfl).trans hg3) ?_
              (try simp only [PT])
              refine seq_skip ((wanted_t rfl rfl rfl).trans hg3) ?_
              (try simp only [PT])
              apply seq_op (V := .bool false) rfl
              · exact fun _ h => O_pickF rfl rfl hg3 rfl h
              (try simp only [PT])
              apply seq_op (V := .bool false) rfl
              · exact fun _ h => O_as rfl rfl h
              (try simp only [PT])
              refine list_end ?_
              refine then_norm ?_
              refine wp_ret ?_
              have hm := Option.some.inj hm
              subst hm
              replace H := H.dropAt 9 rfl; simp only [List.eraseIdx_cons_succ, List.eraseIdx_cons_zero] at H
              replace H := H.dropAt 8 rfl; simp only [List.eraseIdx_cons_succ, List.eraseIdx_cons_zero] at H
              replace H := H.dropAt 7 rfl; simp only [List.eraseIdx_cons_succ, List.eraseIdx_cons_zero] at H
              replace H := H.dropAt 6 rfl; simp only [List.eraseIdx_cons_succ, List.eraseIdx_cons_zero] at H
              replace H := H.dropAt 5 rfl; simp only [List.eraseIdx_cons_succ, List.eraseIdx_cons_zero] at H
              replace H := H.dropAt 4 rfl; simp only [List.eraseIdx_cons_succ, List.eraseIdx_cons_zero] at H
              replace H := H.dropAt 3 rfl; simp only [List.eraseIdx_cons_succ, List.eraseIdx_cons_zero] at H
              replace H := H.dropAt 2 rfl; simp only [List.eraseIdx_cons_succ, List.eraseIdx_cons_zero] at H
              replace H := H.dropAt 1 rfl; simp only [List.eraseIdx_cons_succ, List.eraseIdx_cons_zero] at H
              replace H := H.dropAt 0 rfl; simp only [List.eraseIdx_cons_succ, List.eraseIdx_cons_zero] at H
              exact ret1 rfl (rv_tmp rfl) rfl ⟨rfl, H⟩
      · replace hm := ifF hg2 hm
        refine wp_region_lit ?_
        apply seq_op (V := .bool u5.1) rfl
        · exact fun _ h => O_mv rfl rfl h
        (try simp only [PT])
        apply seq_op (V := .bool u5.1) rfl
        · exact fun _ h => O_mv rfl rfl h
        (try simp only [PT])
        refine seq_skip ((wanted_t rfl rfl rfl).trans hg2) ?_
        (try simp only [PT])
        refine seq_skip ((wanted_t rfl rfl rfl).trans hg2) ?_
        (try simp only [PT])
        refine seq_skip ((wanted_t rfl rfl rfl).trans hg2) ?_
        (try simp only [PT])
        refine seq_skip ((wanted_t rfl rfl rfl).trans hg2) ?_
        (try simp only [PT])
        refine seq_skip ((wanted_t rfl rfl rfl).trans hg2) ?_
        (try simp only [PT])
        apply seq_op (V := .bool false) rfl
        · exact fun _ h => O_pickF rfl rfl hg2 rfl h
        (try simp only [PT])
        apply seq_op (V := .bool false) rfl
        · exact fun _ h => O_as rfl rfl h
        (try simp only [PT])
        refine list_end ?_
        refine then_norm ?_
        refine wp_seq ?_
        refine wp_seq ?_
        obtain ⟨u7, gx7, hm⟩ := bs hm
        refine wp_region_lit ?_
        apply seq_op (V := .pointer (some ⟨br20, 0, none⟩)) rfl
        · exact fun _ h => O_mv rfl rfl h
        (try simp only [PT])
        apply seq_op (V := .slice A_p1 a1.length c_p1) rfl
        · exact fun _ h => O_mv rfl rfl h
        (try simp only [PT])
        replace H := H.front 5 rfl; simp only [List.eraseIdx_cons_succ, List.eraseIdx_cons_zero] at H
        replace H := H.front 5 rfl; simp only [List.eraseIdx_cons_succ, List.eraseIdx_cons_zero] at H
        replace H := H.front 5 rfl; simp only [List.eraseIdx_cons_succ, List.eraseIdx_cons_zero] at H
        refine seq_call rfl (fun Φ hΦ => by refine O_call3 rfl Tryd.func42 rfl rfl rfl rfl rfl hΦ) (model_State_Apply_w (a0 := (⟨u2.1.lists, u2.1.regs⟩ : MSt)) (a1 := a1) (h_p1 := h_p1) (a2 := false) (hm := gx7) (H := H)) ?_
        clear H
        rintro e w1 ⟨rr4o0_lists, rr4o0_regs, rfl, H⟩; refine ⟨_, rfl, ?_⟩
        (try simp only [PT])
        apply seq_op (V := .bool false) rfl
        · exact fun _ h => O_mv rfl rfl h
        (try simp only [PT])
        apply seq_op (V := .bool (!(u7.1 == false))) rfl
        · exact fun _ h => O_bin rfl rfl rfl eqg_bool (r_bne Tryd.underlying4) h
        (try simp only [PT])
        refine list_end ?_
        refine then_norm ?_
        refine wp_cond_split rfl (fun hc => ?_) (fun hc => ?_)
        · have hc2 := hc
          clear hc
          replace hm := ifT hc2 hm
          refine wp_seq ?_
          refine wp_region_lit ?_
          apply seq_op (V := .bool false) rfl
          · exact fun _ h => O_as rfl rfl h
          (try simp only [PT])
          refine list_end ?_
          refine then_norm ?_
          refine wp_ret ?_
          refine then_ret ?_
          have hm := Option.some.inj hm
          subst hm
          replace H := H.dropAt 9 rfl; simp only [List.eraseIdx_cons_succ, List.eraseIdx_cons_zero] at H
          replace H := H.dropAt 8 rfl; simp only [List.eraseIdx_cons_succ, List.eraseIdx_cons_zero] at H
          replace H := H.dropAt 7 rfl; simp only [List.eraseIdx_cons_succ, List.eraseIdx_cons_zero] at H
          replace H := H.dropAt 6 rfl; simp only [List.eraseIdx_cons_succ, List.eraseIdx_cons_zero] at H
          replace H := H.dropAt 5 rfl; simp only [List.eraseIdx_cons_succ, List.eraseIdx_cons_zero] at H
          replace H := H.dropAt 4 rfl; simp only [List.eraseIdx_cons_succ, List.eraseIdx_cons_zero] at H
          replace H := H.dropAt 3 rfl; simp only [List.eraseIdx_cons_succ, List.eraseIdx_cons_zero] at H
          replace H := H.dropAt 2 rfl; simp only [List.eraseIdx_cons_succ, List.eraseIdx_cons_zero] at H
          replace H := H.dropAt 1 rfl; simp only [List.eraseIdx_cons_succ, List.eraseIdx_cons_zero] at H
          replace H := H.dropAt 0 rfl; simp only [List.eraseIdx_cons_succ, List.eraseIdx_cons_zero] at H
          exact ret1 rfl (rv_tmp rfl) rfl ⟨rfl, H⟩
        · have hc2 := hc
          clear hc
          replace hm := ifF hc2 hm
          refine wp_skip ?_
          refine then_norm ?_
          refine wp_seq ?_
          refine wp_seq ?_
          refine wp_region_lit ?_
          apply seq_op (V := .bool false) rfl
          · exact fun _ h => O_mv rfl rfl h
          (try simp only [PT])
          apply seq_op (V := .bool (!false)) rfl
          · exact fun _ h => O_not rfl rfl h
          (try simp only [PT])
          refine list_end ?_
          refine then_norm ?_
          refine wp_cond_split rfl (fun hc => ?_) (fun hc => ?_)
          · have hc3 := hc
            clear hc
            replace hm := ifT hc3 hm
            refine wp_seq ?_
            obtain ⟨u8, gx8, hm⟩ := bs hm
            refine wp_region_lit ?_
            apply seq_op (V := .pointer (some ⟨br20, 0, none⟩)) rfl
            · exact fun _ h => O_mv rfl rfl h
            (try simp only [PT])
            refine seq_opH (V := .string u8) H rfl ?_ ?_
            · intro Φ hΦ; refine O_call1 rfl Tryd.func39 rfl rfl rfl ?_; obtain ⟨sl0, hsl0, hb0, H, bk0, bg0⟩ := lendAt 0 rfl H; simp only [List.eraseIdx_cons_succ, List.eraseIdx_cons_zero, List.cons_append] at H bk0; obtain ⟨sl1, hsl1, hb1, H, bk1, bg1⟩ := lendMapO 0 rfl hsl0 H; simp only [List.eraseIdx_cons_succ, List.eraseIdx_cons_zero, List.cons_append] at H bk1; obtain ⟨sl2, hsl2, hb2, H, bk2, bg2⟩ := lendMapF 0 rfl H; simp only [List.eraseIdx_cons_succ, List.eraseIdx_cons_zero, List.cons_append] at H bk2; refine (model_State_Text_w (a0 := (⟨u7.2.lists, u7.2.regs⟩ : MSt)) (hC_p0 := ((Cells.ofB hb0).mono (hsl1.trans hsl2))) (h_p0_lists := (hb1.mono hsl2)) (h_p0_regs := hb2) (h_gv := (h_gv.mono ((hsl0.trans hsl1).trans hsl2))) (hm := gx8) (H := H)).mono ?_; rintro e w2 ⟨rfl, H⟩; have H := bk2 H; have H := bk1 H; have H := bk0 H; exact ⟨_, rfl, hΦ _ H⟩
            clear H; intro w1 H
            (try simp only [PT])
            apply seq_op (V := .string u3) rfl
            · exact fun _ h => O_mv rfl rfl h
            (try simp only [PT])
            apply seq_op (V := .bool (u8.toList == u3.toList)) rfl
            · exact fun _ h => O_bin rfl rfl rfl eqg_str r_seq h
            (try simp only [PT])
            apply seq_op (V := .bool (u8.toList == u3.toList)) rfl
            · exact fun _ h => O_as rfl rfl h
            (try simp only [PT])
            refine list_end ?_
            refine then_norm ?_
            refine wp_ret ?_
            refine then_ret ?_
            have hm := Option.some.inj hm
            subst hm
            replace H := H.dropAt 9 rfl; simp only [List.eraseIdx_cons_succ, List.eraseIdx_cons_zero] at H
            replace H := H.dropAt 8 rfl; simp only [List.eraseIdx_cons_succ, List.eraseIdx_cons_zero] at H
            replace H := H.dropAt 7 rfl; simp only [List.eraseIdx_cons_succ, List.eraseIdx_cons_zero] at H
            replace H := H.dropAt 6 rfl; simp only [List.eraseIdx_cons_succ, List.eraseIdx_cons_zero] at H
            replace H := H.dropAt 5 rfl; simp only [List.eraseIdx_cons_succ, List.eraseIdx_cons_zero] at H
            replace H := H.dropAt 4 rfl; simp only [List.eraseIdx_cons_succ, List.eraseIdx_cons_zero] at H
            replace H := H.dropAt 3 rfl; simp only [List.eraseIdx_cons_succ, List.eraseIdx_cons_zero] at H
            replace H := H.dropAt 2 rfl; simp only [List.eraseIdx_cons_succ, List.eraseIdx_cons_zero] at H
            replace H := H.dropAt 1 rfl; simp only [List.eraseIdx_cons_succ, List.eraseIdx_cons_zero] at H
            replace H := H.dropAt 0 rfl; simp only [List.eraseIdx_cons_succ, List.eraseIdx_cons_zero] at H
            exact ret1 rfl (rv_tmp rfl) rfl ⟨rfl, H⟩
          · have hc3 := hc
            clear hc
            replace hm := ifF hc3 hm
            refine wp_skip ?_
            refine then_norm ?_
            refine wp_seq ?_
            obtain ⟨u9, gx9, hm⟩ := bs hm
            rcases Bool.eq_false_or_eq_true (u6.toList == u9.toList) with hg3 | hg3
            · replace hm := ifT hg3 hm
              obtain ⟨u10, gx10, hm⟩ := bs hm
              refine wp_region_lit ?_
              apply seq_op (V := .pointer (some ⟨br10, 0, none⟩)) rfl
              · exact fun _ h => O_mv rfl rfl h
              (try simp only [PT])
              refine seq_opH (V := .string u6) H rfl ?_ ?_
              · intro Φ hΦ; refine O_call1 rfl Tryd.func39 rfl rfl rfl ?_; obtain ⟨sl0, hsl0, hb0, H, bk0, bg0⟩ := lendAt 3 rfl H; simp only [List.eraseIdx_cons_succ, List.eraseIdx_cons_zero, List.cons_append] at H bk0; obtain ⟨sl1, hsl1, hb1, H, bk1, bg1⟩ := lendMapO 3 rfl hsl0 H; simp only [List.eraseIdx_cons_succ, List.eraseIdx_cons_zero, List.cons_append] at H bk1; obtain ⟨sl2, hsl2, hb2, H, bk2, bg2⟩ := lendMapF 3 rfl H; simp only [List.eraseIdx_cons_succ, List.eraseIdx_cons_zero, List.cons_append] at H bk2; refine (model_State_Text_w (a0 := (⟨u5.2.lists, u5.2.regs⟩ : MSt)) (hC_p0 := ((Cells.ofB hb0).mono (hsl1.trans hsl2))) (h_p0_lists := (hb1.mono hsl2)) (h_p0_regs := hb2) (h_gv := (h_gv.mono ((hsl0.trans hsl1).trans hsl2))) (hm := gx6) (H := H)).mono ?_; rintro e w2 ⟨rfl, H⟩; have H := bk2 H; have H := bk1 H; have H := bk0 H; exact ⟨_, rfl, hΦ _ H⟩
              clear H; intro w1 H
              (try simp only [PT])
              apply seq_op (V := .pointer (some ⟨br20, 0, none⟩)) rfl
              · exact fun _ h => O_mv rfl rfl h
              (try simp only [PT])
              refine seq_opH (V := .string u9) H rfl ?_ ?_
              · intro Φ hΦ; refine O_call1 rfl Tryd.func39 rfl rfl rfl ?_; obtain ⟨sl0, hsl0, hb0, H, bk0, bg0⟩ := lendAt 0 rfl H; simp only [List.eraseIdx_cons_succ, List.eraseIdx_cons_zero, List.cons_append] at H bk0; obtain ⟨sl1, hsl1, hb1, H, bk1, bg1⟩ := lendMapO 0 rfl hsl0 H; simp only [List.eraseIdx_cons_succ, List.eraseIdx_cons_zero, List.cons_append] at H bk1; obtain ⟨sl2, hsl2, hb2, H, bk2, bg2⟩ := lendMapF 0 rfl H; simp only [List.eraseIdx_cons_succ, List.eraseIdx_cons_zero, List.cons_append] at H bk2; refine (model_State_Text_w (a0 := (⟨u7.2.lists, u7.2.regs⟩ : MSt)) (hC_p0 := ((Cells.ofB hb0).mono (hsl1.trans hsl2))) (h_p0_lists := (hb1.mono hsl2)) (h_p0_regs := hb2) (h_gv := (h_gv.mono ((hsl0.trans hsl1).trans hsl2))) (hm := gx9) (H := H)).mono ?_; rintro e w2 ⟨rfl, H⟩; have H := bk2 H; have H := bk1 H; have H := bk0 H; exact ⟨_, rfl, hΦ _ H⟩
              clear H; intro w1 H
              (try simp only [PT])
              apply seq_op (V := .bool (u6.toList == u9.toList)) rfl
              · exact fun _ h => O_bin rfl rfl rfl eqg_str r_seq h
              (try simp only [PT])
              apply seq_op (V := .bool (u6.toList == u9.toList)) rfl
              · exact fun _ h => O_mv rfl rfl h
              (try simp only [PT])
              refine seq_opw (V := .pointer (some ⟨br11, 0, none⟩)) ((wanted_t rfl rfl rfl).trans hg3) ?_ ?_
              · exact fun _ h => O_mv rfl rfl h
              (try simp only [PT])
              refine seq_opw (V := .slice A_p1 a1.length c_p1) ((wanted_t rfl rfl rfl).trans hg3) ?_ ?_
              · exact fun _ h => O_mv rfl rfl h
              (try simp only [PT])
              replace H := H.front 9 rfl; simp only [List.eraseIdx_cons_succ, List.eraseIdx_cons_zero] at H
              replace H := H.front 9 rfl; simp only [List.eraseIdx_cons_succ, List.eraseIdx_cons_zero] at H
              refine seq_callw ((wanted_t rfl rfl rfl).trans hg3) (fun Φ hΦ => by refine O_call3 rfl Tryd.func43 rfl rfl rfl rfl rfl hΦ) (assayerref16_State_Apply_w (fuel := fuel) (a0 := (⟨u2.2.l⟩ : St16)) (a1 := a1) (h_p1 := h_p1) (a2 := false) (hm := gx10) (H := H)) ?_
              clear H
              rintro e w1 ⟨Ar5o0_l, cr5o0_l, nr5o0_l, rfl, H⟩; refine ⟨_, rfl, ?_⟩
              obtain rfl := osl_len 1 H rfl
              (try simp only [PT])
              apply seq_op (V := .bool u10.1) rfl
              · exact fun _ h => O_pickT rfl rfl hg3 rfl h
              (try simp only [PT])
              apply seq_op (V := .bool u10.1) rfl
              · exact fun _ h => O_as rfl rfl h
              (try simp only [PT])
              refine list_end ?_
              refine then_norm ?_
              refine wp_ret ?_
              have hm := Option.some.inj hm
              subst hm
              replace H := H.dropAt 9 rfl; simp only [List.eraseIdx_cons_succ, List.eraseIdx_cons_zero] at H
              replace H := H.dropAt 8 rfl; simp only [List.eraseIdx_cons_succ, List.eraseIdx_cons_zero] at H
              replace H := H.dropAt 7 rfl; simp only [List.eraseIdx_cons_succ, List.eraseIdx_cons_zero] at H
              replace H := H.dropAt 6 rfl; simp only [List.eraseIdx_cons_succ, List.eraseIdx_cons_zero] at H
              replace H := H.dropAt 5 rfl; simp only [List.eraseIdx_cons_succ, List.eraseIdx_cons_zero] at H
              replace H := H.dropAt 4 rfl; simp only [List.eraseIdx_cons_succ, List.eraseIdx_cons_zero] at H
              replace H := H.dropAt 3 rfl; simp only [List.eraseIdx_cons_succ, List.eraseIdx_cons_zero] at H
              replace H := H.dropAt 2 rfl; simp only [List.eraseIdx_cons_succ, List.eraseIdx_cons_zero] at H
              replace H := H.dropAt 1 rfl; simp only [List.eraseIdx_cons_succ, List.eraseIdx_cons_zero] at H
              replace H := H.dropAt 0 rfl; simp only [List.eraseIdx_cons_succ, List.eraseIdx_cons_zero] at H
              exact ret1 rfl (rv_tmp rfl) rfl ⟨rfl, H⟩
            · replace hm := ifF hg3 hm
              refine wp_region_lit ?_
              apply seq_op (V := .pointer (some ⟨br10, 0, none⟩)) rfl
              · exact fun _ h => O_mv rfl rfl h
              (try simp only [PT])
              refine seq_opH (V := .string u6) H rfl ?_ ?_
              · intro Φ hΦ; refine O_call1 rfl Tryd.func39 rfl rfl rfl ?_; obtain ⟨sl0, hsl0, hb0, H, bk0, bg0⟩ := lendAt 3 rfl H; simp only [List.eraseIdx_cons_succ, List.eraseIdx_cons_zero, List.cons_append] at H bk0; obtain ⟨sl1, hsl1, hb1, H, bk1, bg1⟩ := lendMapO 3 rfl hsl0 H; simp only [List.eraseIdx_cons_succ, List.eraseIdx_cons_zero, List.cons_append] at H bk1; obtain ⟨sl2, hsl2, hb2, H, bk2, bg2⟩ := lendMapF 3 rfl H; simp only [List.eraseIdx_cons_succ, List.eraseIdx_cons_zero, List.cons_append] at H bk2; refine (model_State_Text_w (a0 := (⟨u5.2.lists, u5.2.regs⟩ : MSt)) (hC_p0 := ((Cells.ofB hb0).mono (hsl1.trans hsl2))) (h_p0_lists := (hb1.mono hsl2)) (h_p0_regs := hb2) (h_gv := (h_gv.mono ((hsl0.trans hsl1).trans hsl2))) (hm := gx6) (H := H)).mono ?_; rintro e w2 ⟨rfl, H⟩; have H := bk2 H; have H := bk1 H; have H := bk0 H; exact ⟨_, rfl, hΦ _ H⟩
              clear H; intro w1 H
              (try simp only [PT])
              apply seq_op (V := .pointer (some ⟨br20, 0, none⟩)) rfl
              · exact fun _ h => O_mv rfl rfl h
              (try simp only [PT])
              refine seq_opH (V := .string u9) H rfl ?_ ?_
              · intro Φ hΦ; refine O_call1 rfl Tryd.func39 rfl rfl rfl ?_; obtain ⟨sl0, hsl0, hb0, H, bk0, bg0⟩ := lendAt 0 rfl H; simp only [List.eraseIdx_cons_succ, List.eraseIdx_cons_zero, List.cons_append] at H bk0; obtain ⟨sl1, hsl1, hb1, H, bk1, bg1⟩ := lendMapO 0 rfl hsl0 H; simp only [List.eraseIdx_cons_succ, List.eraseIdx_cons_zero, List.cons_append] at H bk1; obtain ⟨sl2, hsl2, hb2, H, bk2, bg2⟩ := lendMapF 0 rfl H; simp only [List.eraseIdx_cons_succ, List.eraseIdx_cons_zero, List.cons_append] at H bk2; refine (model_State_Text_w (a0 := (⟨u7.2.lists, u7.2.regs⟩ : MSt)) (hC_p0 := ((Cells.ofB hb0).mono (hsl1.trans hsl2))) (h_p0_lists := (hb1.mono hsl2)) (h_p0_regs := hb2) (h_gv := (h_gv.mono ((hsl0.trans hsl1).trans hsl2))) (hm := gx9) (H := H)).mono ?_; rintro e w2 ⟨rfl, H⟩; have H := bk2 H; have H := bk1 H; have H := bk0 H; exact ⟨_, rfl, hΦ _ H⟩
              clear H; intro w1 H
              (try simp only [PT])
              apply seq_op (V := .bool (u6.toList == u9.toList)) rfl
              · exact fun _ h => O_bin rfl rfl rfl eqg_str r_seq h
              (try simp only [PT])
              apply seq_op (V := .bool (u6.toList == u9.toList)) rfl
              · exact fun _ h => O_mv rfl rfl h
              (try simp only [PT])
              refine seq_skip ((wanted_t rfl rfl rfl).trans hg3) ?_
              (try simp only [PT])
              refine seq_skip ((wanted_t rfl rfl rfl).trans hg3) ?_
              (try simp only [PT])
              refine seq_skip ((wanted_t rfl rfl rfl).trans hg3) ?_
              (try simp only [PT])
              apply seq_op (V := .bool false) rfl
              · exact fun _ h => O_pickF rfl rfl hg3 rfl h
              (try simp only [PT])
              apply seq_op (V := .bool false) rfl
              · exact fun _ h => O_as rfl rfl h
              (try simp only [PT])
              refine list_end ?_
              refine then_norm ?_
              refine wp_ret ?_
              have hm := Option.some.inj hm
              subst hm
              replace H := H.dropAt 9 rfl; simp only [List.eraseIdx_cons_succ, List.eraseIdx_cons_zero] at H
              replace H := H.dropAt 8 rfl; simp only [List.eraseIdx_cons_succ, List.eraseIdx_cons_zero] at H
              replace H := H.dropAt 7 rfl; simp only [List.eraseIdx_cons_succ, List.eraseIdx_cons_zero] at H
              replace H := H.dropAt 6 rfl; simp only [List.eraseIdx_cons_succ, List.eraseIdx_cons_zero] at H
              replace H := H.dropAt 5 rfl; simp only [List.eraseIdx_cons_succ, List.eraseIdx_cons_zero] at H
              replace H := H.dropAt 4 rfl; simp only [List.eraseIdx_cons_succ, List.eraseIdx_cons_zero] at H
              replace H := H.dropAt 3 rfl; simp only [List.eraseIdx_cons_succ, List.eraseIdx_cons_zero] at H
              replace H := H.dropAt 2 rfl; simp only [List.eraseIdx_cons_succ, List.eraseIdx_cons_zero] at H
              replace H := H.dropAt 1 rfl; simp only [List.eraseIdx_cons_succ, List.eraseIdx_cons_zero] at H
              replace H := H.dropAt 0 rfl; simp only [List.eraseIdx_cons_succ, List.eraseIdx_cons_zero] at H
              exact ret1 rfl (rv_tmp rfl) rfl ⟨rfl, H⟩
  · replace hm := ifF hg1 hm
    refine wp_region_lit ?_
    apply seq_op (V := .bool u5.1) rfl
    · exact fun _ h => O_mv rfl rfl h
    (try simp only [PT])
    apply seq_op (V := .bool (!u5.1)) rfl
    · exact fun _ h => O_not rfl rfl h
    (try simp only [PT])
    apply seq_op (V := .bool (!u5.1)) rfl
    · exact fun _ h => O_mv rfl rfl h
    (try simp only [PT])
    refine seq_skip ((wanted_t rfl rfl rfl).trans hg1) ?_
    (try simp only [PT])
    refine seq_skip ((wanted_t rfl rfl rfl).trans hg1) ?_
    (try simp only [PT])
    refine seq_skip ((wanted_t rfl rfl rfl).trans hg1) ?_
    (try simp only [PT])
    refine seq_skip ((wanted_t rfl rfl rfl).trans hg1) ?_
    (try simp only [PT])
    apply seq_op (V := .bool false) rfl
    · exact fun _ h => O_pickF rfl rfl hg1 rfl h
    (try simp only [PT])
    refine list_end ?_
    refine then_norm ?_
    refine wp_cond_false rfl ?_
    refine wp_skip ?_
    refine then_norm ?_
    refine wp_seq ?_
    rcases Bool.eq_false_or_eq_true u5.1 with hg2 | hg2
    · replace hm := ifT hg2 hm
      obtain ⟨u6, gx6, hm⟩ := bs hm
      obtain ⟨kq2, Aq2, cq2, hiq2, hkq2, hAq2, hnq2, hcq2, hsq2⟩ := slI_sl h_p1 gx6
      obtain ⟨u7, gx7, hm⟩ := bs hm
      refine wp_region_lit ?_
      apply seq_op (V := .bool u5.1) rfl
      · exact fun _ h => O_mv rfl rfl h
      (try simp only [PT])
      apply seq_op (V := .bool u5.1) rfl
      · exact fun _ h => O_mv rfl rfl h
      (try simp only [PT])
      refine seq_opw (V := .pointer (some ⟨br10, 0, none⟩)) ((wanted_t rfl rfl rfl).trans hg2) ?_ ?_
      · exact fun _ h => O_mv rfl rfl h
      (try simp only [PT])
      refine seq_opw (V := .slice A_p1 a1.length c_p1) ((wanted_t rfl rfl rfl).trans hg2) ?_ ?_
      · exact fun _ h => O_mv rfl rfl h
      (try simp only [PT])
      refine seq_opw (V := .int .i64 (IntKind.i64.wrap u1)) ((wanted_t rfl rfl rfl).trans hg2) ?_ ?_
      · exact fun _ h => O_mv rfl rfl h
      (try simp only [PT])
      refine seq_opw (V := .slice Aq2 u6.length cq2) ((wanted_t rfl rfl rfl).trans hg2) ?_ ?_
      · exact fun _ h => O_slI kOp_at rfl rfl rfl hiq2 hkq2 hAq2 hnq2 hcq2 h
      (try simp only [PT])
      replace H := H.front 2 rfl; simp only [List.eraseIdx_cons_succ, List.eraseIdx_cons_zero] at H
      replace H := H.front 2 rfl; simp only [List.eraseIdx_cons_succ, List.eraseIdx_cons_zero] at H
      replace H := H.front 2 rfl; simp only [List.eraseIdx_cons_succ, List.eraseIdx_cons_zero] at H
      refine seq_callw ((wanted_t rfl rfl rfl).trans hg2) (fun Φ hΦ => by refine O_call3 rfl Tryd.func42 rfl rfl rfl rfl rfl hΦ) (model_State_Apply_w (a0 := (⟨u5.2.lists, u5.2.regs⟩ : MSt)) (a1 := u6) (h_p1 := hsq2) (a2 := false) (hm := gx7) (H := H)) ?_
      clear H
      rintro e w1 ⟨rr4o0_lists, rr4o0_regs, rfl, H⟩; refine ⟨_, rfl, ?_⟩
      (try simp only [PT])
      apply seq_op (V := .bool u7.1) rfl
      · exact fun _ h => O_pickT rfl rfl hg2 rfl h
      (try simp only [PT])
      apply seq_op (V := .bool u7.1) rfl
      · exact fun _ h => O_as rfl rfl h
      (try simp only [PT])
      refine list_end ?_
      refine then_norm ?_
      refine wp_seq ?_
      refine wp_seq ?_
      obtain ⟨u8, gx8, hm⟩ := bs hm
      refine wp_region_lit ?_
      apply seq_op (V := .pointer (some ⟨br20, 0, none⟩)) rfl
      · exact fun _ h => O_mv rfl rfl h
      (try simp only [PT])
      apply seq_op (V := .slice A_p1 a1.length c_p1) rfl
      · exact fun _ h => O_mv rfl rfl h
      (try simp only [PT])
      replace H := H.front 5 rfl; simp only [List.eraseIdx_cons_succ, List.eraseIdx_cons_zero] at H
      replace H := H.front 5 rfl; simp only [List.eraseIdx_cons_succ, List.eraseIdx_cons_zero] at H
      replace H := H.front 5 rfl; simp only [List.eraseIdx_cons_succ, List.eraseIdx_cons_zero] at H
      refine seq_call rfl (fun Φ hΦ => by refine O_call3 rfl Tryd.func42 rfl rfl rfl rfl rfl hΦ) (model_State_Apply_w (a0 := (⟨u2.1.lists, u2.1.regs⟩ : MSt)) (a1 := a1) (h_p1 := h_p1) (a2 := false) (hm := gx8) (H := H)) ?_
      clear H
      rintro e w1 ⟨rr5o0_lists, rr5o0_regs, rfl, H⟩; refine ⟨_, rfl, ?_⟩
      (try simp only [PT])
      apply seq_op (V := .bool u7.1) rfl
      · exact fun _ h => O_mv rfl rfl h
      (try simp only [PT])
      apply seq_op (V := .bool (!(u8.1 == u7.1))) rfl
      · exact fun _ h => O_bin rfl rfl rfl eqg_bool (r_bne Tryd.underlying4) h
      (try simp only [PT])
      refine list_end ?_
      refine then_norm ?_
      refine wp_cond_split rfl (fun hc => ?_) (fun hc => ?_)
      · have hc1 := hc
        clear hc
        replace hm := ifT hc1 hm
        refine wp_seq ?_
        refine wp_region_lit ?_
        apply seq_op (V := .bool false) rfl
        · exact fun _ h => O_as rfl rfl h
        (try simp only [PT])
        refine list_end ?_
        refine then_norm ?_
        refine wp_ret ?_
        refine then_ret ?_
        have hm := Option.some.inj hm
        subst hm
        replace H := H.dropAt 9 rfl; simp only [List.eraseIdx_cons_succ, List.eraseIdx_cons_zero] at H
        replace H := H.dropAt 8 rfl; simp only [List.eraseIdx_cons_succ, List.eraseIdx_cons_zero] at H
        replace H := H.dropAt 7 rfl; simp only [List.eraseIdx_cons_succ, List.eraseIdx_cons_zero] at H
        replace H := H.dropAt 6 rfl; simp only [List.eraseIdx_cons_succ, List.eraseIdx_cons_zero] at H
        replace H := H.dropAt 5 rfl; simp only [List.eraseIdx_cons_succ, List.eraseIdx_cons_zero] at H
        replace H := H.dropAt 4 rfl; simp only [List.eraseIdx_cons_succ, List.eraseIdx_cons_zero] at H
        replace H := H.dropAt 3 rfl; simp only [List.eraseIdx_cons_succ, List.eraseIdx_cons_zero] at H
        replace H := H.dropAt 2 rfl; simp only [List.eraseIdx_cons_succ, List.eraseIdx_cons_zero] at H
        replace H := H.dropAt 1 rfl; simp only [List.eraseIdx_cons_succ, List.eraseIdx_cons_zero] at H
        replace H := H.dropAt 0 rfl; simp only [List.eraseIdx_cons_succ, List.eraseIdx_cons_zero] at H
        exact ret1 rfl (rv_tmp rfl) rfl ⟨rfl, H⟩
      · have hc1 := hc
        clear hc
        replace hm := ifF hc1 hm
        refine wp_skip ?_
        refine then_norm ?_
        refine wp_seq ?_
        refine wp_seq ?_
        refine wp_region_lit ?_
        apply seq_op (V := .bool u7.1) rfl
        · exact fun _ h => O_mv rfl rfl h
        (try simp only [PT])
        apply seq_op (V := .bool (!u7.1)) rfl
        · exact fun _ h => O_not rfl rfl h
        (try simp only [PT])
        refine list_end ?_
        refine then_norm ?_
        refine wp_cond_split rfl (fun hc => ?_) (fun hc => ?_)
        · have hc2 := hc
          clear hc
          replace hm := ifT hc2 hm
          refine wp_seq ?_
          obtain ⟨u9, gx9, hm⟩ := bs hm
          refine wp_region_lit ?_
          apply seq_op (V := .pointer (some ⟨br20, 0, none⟩)) rfl
          · exact fun _ h => O_mv rfl rfl h
          (try simp only [PT])
          refine seq_opH (V := .string u9) H rfl ?_ ?_
          · intro Φ hΦ; refine O_call1 rfl Tryd.func39 rfl rfl rfl ?_; obtain ⟨sl0, hsl0, hb0, H, bk0, bg0⟩ := lendAt 0 rfl H; simp only [List.eraseIdx_cons_succ, List.eraseIdx_cons_zero, List.cons_append] at H bk0; obtain ⟨sl1, hsl1, hb1, H, bk1, bg1⟩ := lendMapO 0 rfl hsl0 H; simp only [List.eraseIdx_cons_succ, List.eraseIdx_cons_zero, List.cons_append] at H bk1; obtain ⟨sl2, hsl2, hb2, H, bk2, bg2⟩ := lendMapF 0 rfl H; simp only [List.eraseIdx_cons_succ, List.eraseIdx_cons_zero, List.cons_append] at H bk2; refine (model_State_Text_w (a0 := (⟨u8.2.lists, u8.2.regs⟩ : MSt)) (hC_p0 := ((Cells.ofB hb0).mono (hsl1.trans hsl2))) (h_p0_lists := (hb1.mono hsl2)) (h_p0_regs := hb2) (h_gv := (h_gv.mono ((hsl0.trans hsl1).trans hsl2))) (hm := gx9) (H := H)).mono ?_; rintro e w2 ⟨rfl, H⟩; have H := bk2 H; have H := bk1 H; have H := bk0 H; exact ⟨_, rfl, hΦ _ H⟩
          clear H; intro w1 H
          (try simp only [PT])
          apply seq_op (V := .string u3) rfl
          · exact fun _ h => O_mv rfl rfl h
          (try simp only [PT])
          apply seq_op (V := .bool (u9.toList == u3.toList)) rfl
          · exact fun _ h => O_bin rfl rfl rfl eqg_str r_seq h
          (try simp only [PT])
          apply seq_op (V := .bool (u9.toList == u3.toList)) rfl
          · exact fun _ h => O_as rfl rfl h
          (try simp only [PT])
          refine list_end ?_
          refine then_norm ?_
          refine wp_ret ?_
          refine then_ret ?_
          have hm := Option.some.inj hm
          subst hm
          replace H := H.dropAt 9 rfl; simp only [List.eraseIdx_cons_succ, List.eraseIdx_cons_zero] at H
          replace H := H.dropAt 8 rfl; simp only [List.eraseIdx_cons_succ, List.eraseIdx_cons_zero] at H
          replace H := H.dropAt 7 rfl; simp only [List.eraseIdx_cons_succ, List.eraseIdx_cons_zero] at H
          replace H := H.dropAt 6 rfl; simp only [List.eraseIdx_cons_succ, List.eraseIdx_cons_zero] at H
          replace H := H.dropAt 5 rfl; simp only [List.eraseIdx_cons_succ, List.eraseIdx_cons_zero] at H
          replace H := H.dropAt 4 rfl; simp only [List.eraseIdx_cons_succ, List.eraseIdx_cons_zero] at H
          replace H := H.dropAt 3 rfl; simp only [List.eraseIdx_cons_succ, List.eraseIdx_cons_zero] at H
          replace H := H.dropAt 2 rfl; simp only [List.eraseIdx_cons_succ, List.eraseIdx_cons_zero] at H
          replace H := H.dropAt 1 rfl; simp only [List.eraseIdx_cons_succ, List.eraseIdx_cons_zero] at H
          replace H := H.dropAt 0 rfl; simp only [List.eraseIdx_cons_succ, List.eraseIdx_cons_zero] at H
          exact ret1 rfl (rv_tmp rfl) rfl ⟨rfl, H⟩
        · have hc2 := hc
          clear hc
          replace hm := ifF hc2 hm
          refine wp_skip ?_
          refine then_norm ?_
          refine wp_seq ?_
          obtain ⟨u10, gx10, hm⟩ := bs hm
          obtain ⟨u11, gx11, hm⟩ := bs hm
          rcases Bool.eq_false_or_eq_true (u10.toList == u11.toList) with hg3 | hg3
          · replace hm := ifT hg3 hm
            obtain ⟨u12, gx12, hm⟩ := bs hm
            refine wp_region_lit ?_
            apply seq_op (V := .pointer (some ⟨br10, 0, none⟩)) rfl
            · exact fun _ h => O_mv rfl rfl h
            (try simp only [PT])
            refine seq_opH (V := .string u10) H rfl ?_ ?_
            · intro Φ hΦ; refine O_call1 rfl Tryd.func39 rfl rfl rfl ?_; obtain ⟨sl0, hsl0, hb0, H, bk0, bg0⟩ := lendAt 3 rfl H; simp only [List.eraseIdx_cons_succ, List.eraseIdx_cons_zero, List.cons_append] at H bk0; obtain ⟨sl1, hsl1, hb1, H, bk1, bg1⟩ := lendMapO 3 rfl hsl0 H; simp only [List.eraseIdx_cons_succ, List.eraseIdx_cons_zero, List.cons_append] at H bk1; obtain ⟨sl2, hsl2, hb2, H, bk2, bg2⟩ := lendMapF 3 rfl H; simp only [List.eraseIdx_cons_succ, List.eraseIdx_cons_zero, List.cons_append] at H bk2; refine (model_State_Text_w (a0 := (⟨u7.2.lists, u7.2.regs⟩ : MSt)) (hC_p0 := ((Cells.ofB hb0).mono (hsl1.trans hsl2))) (h_p0_lists := (hb1.mono hsl2)) (h_p0_regs := hb2) (h_gv := (h_gv.mono ((hsl0.trans hsl1).trans hsl2))) (hm := gx10) (H := H)).mono ?_; rintro e w2 ⟨rfl, H⟩; have H := bk2 H; have H := bk1 H; have H := bk0 H; exact ⟨_, rfl, hΦ _ H⟩
            clear H; intro w1 H
            (try simp only [PT])
            apply seq_op (V := .pointer (some ⟨br20, 0, none⟩)) rfl
            · exact fun _ h => O_mv rfl rfl h
            (try simp only [PT])
            refine seq_opH (V := .string u11) H rfl ?_ ?_
            · intro Φ hΦ; refine O_call1 rfl Tryd.func39 rfl rfl rfl ?_; obtain ⟨sl0, hsl0, hb0, H, bk0, bg0⟩ := lendAt 0 rfl H; simp only [List.eraseIdx_cons_succ, List.eraseIdx_cons_zero, List.cons_append] at H bk0; obtain ⟨sl1, hsl1, hb1, H, bk1, bg1⟩ := lendMapO 0 rfl hsl0 H; simp only [List.eraseIdx_cons_succ, List.eraseIdx_cons_zero, List.cons_append] at H bk1; obtain ⟨sl2, hsl2, hb2, H, bk2, bg2⟩ := lendMapF 0 rfl H; simp only [List.eraseIdx_cons_succ, List.eraseIdx_cons_zero, List.cons_append] at H bk2; refine (model_State_Text_w (a0 := (⟨u8.2.lists, u8.2.regs⟩ : MSt)) (hC_p0 := ((Cells.ofB hb0).mono (hsl1.trans hsl2))) (h_p0_lists := (hb1.mono hsl2)) (h_p0_regs := hb2) (h_gv := (h_gv.mono ((hsl0.trans hsl1).trans hsl2))) (hm := gx11) (H := H)).mono ?_; rintro e w2 ⟨rfl, H⟩; have H := bk2 H; have H := bk1 H; have H := bk0 H; exact ⟨_, rfl, hΦ _ H⟩
            clear H; intro w1 H
            (try simp only [PT])
            apply seq_op (V := .bool (u10.toList == u11.toList)) rfl
            · exact fun _ h => O_bin rfl rfl rfl eqg_str r_seq h
            (try simp only [PT])
            apply seq_op (V := .bool (u10.toList == u11.toList)) rfl
            · exact fun _ h => O_mv rfl rfl h
            (try simp only [PT])
            refine seq_opw (V := .pointer (some ⟨br11, 0, none⟩)) ((wanted_t rfl rfl rfl).trans hg3) ?_ ?_
            · exact fun _ h => O_mv rfl rfl h
            (try simp only [PT])
            refine seq_opw (V := .slice A_p1 a1.length c_p1) ((wanted_t rfl rfl rfl).trans hg3) ?_ ?_
            · exact fun _ h => O_mv rfl rfl h
            (try simp only [PT])
            replace H := H.front 9 rfl; simp only [List.eraseIdx_cons_succ, List.eraseIdx_cons_zero] at H
            replace H := H.front 9 rfl; simp only [List.eraseIdx_cons_succ, List.eraseIdx_cons_zero] at H
            refine seq_callw ((wanted_t rfl rfl rfl).trans hg3) (fun Φ hΦ => by refine O_call3 rfl Tryd.func43 rfl rfl rfl rfl rfl hΦ) (assayerref16_State_Apply_w (fuel := fuel) (a0 := (⟨u2.2.l⟩ : St16)) (a1 := a1) (h_p1 := h_p1) (a2 := false) (hm := gx12) (H := H)) ?_
            clear H
            rintro e w1 ⟨Ar6o0_l, cr6o0_l, nr6o0_l, rfl, H⟩; refine ⟨_, rfl, ?_⟩
            obtain rfl := osl_len 1 H rfl
            (try simp only [PT])
            apply seq_op (V := .bool u12.1) rfl
            · exact fun _ h => O_pickT rfl rfl hg3 rfl h
            (try simp only [PT])
            apply seq_op (V := .bool u12.1) rfl
            · exact fun _ h => O_as rfl rfl h
            (try simp only [PT])
            refine list_end ?_
            refine then_norm ?_
            refine wp_ret ?_
            have hm := Option.some.inj hm
            subst hm
            replace H := H.dropAt 9 rfl; simp only [List.eraseIdx_cons_succ, List.eraseIdx_cons_zero] at H
            replace H := H.dropAt 8 rfl; simp only [List.eraseIdx_cons_succ, List.eraseIdx_cons_zero] at H
            replace H := H.dropAt 7 rfl; simp only [List.eraseIdx_cons_succ, List.eraseIdx_cons_zero] at H
            replace H := H.dropAt 6 rfl; simp only [List.eraseIdx_cons_succ, List.eraseIdx_cons_zero] at H
            replace H := H.dropAt 5 rfl; simp only [List.eraseIdx_cons_succ, List.eraseIdx_cons_zero] at H
            replace H := H.dropAt 4 rfl; simp only [List.eraseIdx_cons_succ, List.eraseIdx_cons_zero] at H
            replace H := H.dropAt 3 rfl; simp only [List.eraseIdx_cons_succ, List.eraseIdx_cons_zero] at H
            replace H := H.dropAt 2 rfl; simp only [List.eraseIdx_cons_succ, List.eraseIdx_cons_zero] at H
            replace H := H.dropAt 1 rfl; simp only [List.eraseIdx_cons_succ, List.eraseIdx_cons_zero] at H
            replace H := H.dropAt 0 rfl; simp only [List.eraseIdx_cons_succ, List.eraseIdx_cons_zero] at H
            exact ret1 rfl (rv_tmp rfl) rfl ⟨rfl, H⟩
          · replace hm := ifF hg3 hm
            refine wp_region_lit ?_
            apply seq_op (V := .pointer (some ⟨br10, 0, none⟩)) rfl
            · exact fun _ h => O_mv rfl rfl h
            (try simp only [PT])
            refine seq_opH (V := .string u10) H rfl ?_ ?_
            · intro Φ hΦ; refine O_call1 rfl Tryd.func39 rfl rfl rfl ?_; obtain ⟨sl0, hsl0, hb0, H, bk0, bg0⟩ := lendAt 3 rfl H; simp only [List.eraseIdx_cons_succ, List.eraseIdx_cons_zero, List.cons_append] at H bk0; obtain ⟨sl1, hsl1, hb1, H, bk1, bg1⟩ := lendMapO 3 rfl hsl0 H; simp only [List.eraseIdx_cons_succ, List.eraseIdx_cons_zero, List.cons_append] at H bk1; obtain ⟨sl2, hsl2, hb2, H, bk2, bg2⟩ := lendMapF 3 rfl H; simp only [List.eraseIdx_cons_succ, List.eraseIdx_cons_zero, List.cons_append] at H bk2; refine (model_State_Text_w (a0 := (⟨u7.2.lists, u7.2.regs⟩ : MSt)) (hC_p0 := ((Cells.ofB hb0).mono (hsl1.trans hsl2))) (h_p0_lists := (hb1.mono hsl2)) (h_p0_regs := hb2) (h_gv := (h_gv.mono ((hsl0.trans hsl1).trans hsl2))) (hm := gx10) (H := H)).mono ?_; rintro e w2 ⟨rfl, H⟩; have H := bk2 H; have H := bk1 H; have H := bk0 H; exact ⟨_, rfl, hΦ _ H⟩
            clear H; intro w1 H
            (try simp only [PT])
            apply seq_op (V := .pointer (some ⟨br20, 0, none⟩)) rfl
            · exact fun _ h => O_mv rfl rfl h
            (try simp only [PT])
            refine seq_opH (V := .string u11) H rfl ?_ ?_
            · intro Φ hΦ; refine O_call1 rfl Tryd.func39 rfl rfl rfl ?_; obtain ⟨sl0, hsl0, hb0, H, bk0, bg0⟩ := lendAt 0 rfl H; simp only [List.eraseIdx_cons_succ, List.eraseIdx_cons_zero, List.cons_append] at H bk0; obtain ⟨sl1, hsl1, hb1, H, bk1, bg1⟩ := lendMapO 0 rfl hsl0 H; simp only [List.eraseIdx_cons_succ, List.eraseIdx_cons_zero, List.cons_append] at H bk1; obtain ⟨sl2, hsl2, hb2, H, bk2, bg2⟩ := lendMapF 0 rfl H; simp only [List.eraseIdx_cons_succ, List.eraseIdx_cons_zero, List.cons_append] at H bk2; refine (model_State_Text_w (a0 := (⟨u8.2.lists, u8.2.regs⟩ : MSt)) (hC_p0 := ((Cells.ofB hb0).mono (hsl1.trans hsl2))) (h_p0_lists := (hb1.mono hsl2)) (h_p0_regs := hb2) (h_gv := (h_gv.mono ((hsl0.trans hsl1).trans hsl2))) (hm := gx11) (H := H)).mono ?_; rintro e w2 ⟨rfl, H⟩; have H := bk2 H; have H := bk1 H; have H := bk0 H; exact ⟨_, rfl, hΦ _ H⟩
            clear H; intro w1 H
            (try simp only [PT])
            apply seq_op (V := .bool (u10.toList == u11.toList)) rfl
            · exact fun _ h => O_bin rfl rfl rfl eqg_str r_seq h
            (try simp only [PT])
            apply seq_op (V := .bool (u10.toList == u11.toList)) rfl
            · exact fun _ h => O_mv rfl rfl h
            (try simp only [PT])
            refine seq_skip ((wanted_t rfl rfl rfl).trans hg3) ?_
            (try simp only [PT])
            refine seq_skip ((wanted_t rfl rfl rfl).trans hg3) ?_
            (try simp only [PT])
            refine seq_skip ((wanted_t rfl rfl rfl).trans hg3) ?_
            (try simp only [PT])
            apply seq_op (V := .bool false) rfl
            · exact fun _ h => O_pickF rfl rfl hg3 rfl h
            (try simp only [PT])
            apply seq_op (V := .bool false) rfl
            · exact fun _ h => O_as rfl rfl h
            (try simp only [PT])
            refine list_end ?_
            refine then_norm ?_
            refine wp_ret ?_
            have hm := Option.some.inj hm
            subst hm
            replace H := H.dropAt 9 rfl; simp only [List.eraseIdx_cons_succ, List.eraseIdx_cons_zero] at H
            replace H := H.dropAt 8 rfl; simp only [List.eraseIdx_cons_succ, List.eraseIdx_cons_zero] at H
            replace H := H.dropAt 7 rfl; simp only [List.eraseIdx_cons_succ, List.eraseIdx_cons_zero] at H
            replace H := H.dropAt 6 rfl; simp only [List.eraseIdx_cons_succ, List.eraseIdx_cons_zero] at H
            replace H := H.dropAt 5 rfl; simp only [List.eraseIdx_cons_succ, List.eraseIdx_cons_zero] at H
            replace H := H.dropAt 4 rfl; simp only [List.eraseIdx_cons_succ, List.eraseIdx_cons_zero] at H
            replace H := H.dropAt 3 rfl; simp only [List.eraseIdx_cons_succ, List.eraseIdx_cons_zero] at H
            replace H := H.dropAt 2 rfl; simp only [List.eraseIdx_cons_succ, List.eraseIdx_cons_zero] at H
            replace H := H.dropAt 1 rfl; simp only [List.eraseIdx_cons_succ, List.eraseIdx_cons_zero] at H
            replace H := H.dropAt 0 rfl; simp only [List.eraseIdx_cons_succ, List.eraseIdx_cons_zero] at H
            exact ret1 rfl (rv_tmp rfl) rfl ⟨rfl, H⟩
    · replace hm := ifF hg2 hm
      refine wp_region_lit ?_
      apply seq_op (V := .bool u5.1) rfl
      · exact fun _ h => O_mv rfl rfl h
      (try simp only [PT])
      apply seq_op (V := .bool u5.1) rfl
      · exact fun _ h => O_mv rfl rfl h
      (try simp only [PT])
      refine seq_skip ((wanted_t rfl rfl rfl).trans hg2) ?_
      (try simp only [PT])
      refine seq_skip ((wanted_t rfl rfl rfl).trans hg2) ?_
      (try simp only [PT])
      refine seq_skip ((wanted_t rfl rfl rfl).trans hg2) ?_
      (try simp only [PT])
      refine seq_skip ((wanted_t rfl rfl rfl).trans hg2) ?_
      (try simp only [PT])
      refine seq_skip ((wanted_t rfl rfl rfl).trans hg2) ?_
      (try simp only [PT])
      apply seq_op (V := .bool false) rfl
      · exact fun _ h => O_pickF rfl rfl hg2 rfl h
      (try simp only [PT])
      apply seq_op (V := .bool false) rfl
      · exact fun _ h => O_as rfl rfl h
      (try simp only [PT])
      refine list_end ?_
      refine then_norm ?_
      refine wp_seq ?_
      refine wp_seq ?_
      obtain ⟨u6, gx6, hm⟩ := bs hm
      refine wp_region_lit ?_
      apply seq_op (V := .pointer (some ⟨br20, 0, none⟩)) rfl
      · exact fun _ h => O_mv rfl rfl h
      (try simp only [PT])
      apply seq_op (V := .slice A_p1 a1.length c_p1) rfl
      · exact fun _ h => O_mv rfl rfl h
      (try simp only [PT])
      replace H := H.front 5 rfl; simp only [List.eraseIdx_cons_succ, List.eraseIdx_cons_zero] at H
      replace H := H.front 5 rfl; simp only [List.eraseIdx_cons_succ, List.eraseIdx_cons_zero] at H
      replace H := H.front 5 rfl; simp only [List.eraseIdx_cons_succ, List.eraseIdx_cons_zero] at H
      refine seq_call rfl (fun Φ hΦ => by refine O_call3 rfl Tryd.func42 rfl rfl rfl rfl rfl hΦ) (model_State_Apply_w (a0 := (⟨u2.1.lists, u2.1.regs⟩ : MSt)) (a1 := a1) (h_p1 := h_p1) (a2 := false) (hm := gx6) (H := H)) ?_
      clear H
      rintro e w1 ⟨rr4o0_lists, rr4o0_regs, rfl, H⟩; refine ⟨_, rfl, ?_⟩
      (try simp only [PT])
      apply seq_op (V := .bool false) rfl
      · exact fun _ h => O_mv rfl rfl h
      (try simp only [PT])
      apply seq_op (V := .bool (!(u6.1 == false))) rfl
      · exact fun _ h => O_bin rfl rfl rfl eqg_bool (r_bne Tryd.underlying4) h
      (try simp only [PT])
      refine list_end ?_
      refine then_norm ?_
      refine wp_cond_split rfl (fun hc => ?_) (fun hc => ?_)
      · have hc1 := hc
        clear hc
        replace hm := ifT hc1 hm
        refine wp_seq ?_
        refine wp_region_lit ?_
        apply seq_op (V := .bool false) rfl
        · exact fun _ h => O_as rfl rfl h
        (try simp only [PT])
        refine list_end ?_
        refine then_norm ?_
        refine wp_ret ?_
        refine then_ret ?_
        have hm := Option.some.inj hm
        subst hm
        replace H := H.dropAt 9 rfl; simp only [List.eraseIdx_cons_succ, List.eraseIdx_cons_zero] at H
        replace H := H.dropAt 8 rfl; simp only [List.eraseIdx_cons_succ, List.eraseIdx_cons_zero] at H
        replace H := H.dropAt 7 rfl; simp only [List.eraseIdx_cons_succ, List.eraseIdx_cons_zero] at H
        replace H := H.dropAt 6 rfl; simp only [List.eraseIdx_cons_succ, List.eraseIdx_cons_zero] at H
        replace H := H.dropAt 5 rfl; simp only [List.eraseIdx_cons_succ, List.eraseIdx_cons_zero] at H
        replace H := H.dropAt 4 rfl; simp only [List.eraseIdx_cons_succ, List.eraseIdx_cons_zero] at H
        replace H := H.dropAt 3 rfl; simp only [List.eraseIdx_cons_succ, List.eraseIdx_cons_zero] at H
        replace H := H.dropAt 2 rfl; simp only [List.eraseIdx_cons_succ, List.eraseIdx_cons_zero] at H
        replace H := H.dropAt 1 rfl; simp only [List.eraseIdx_cons_succ, List.eraseIdx_cons_zero] at H
        replace H := H.dropAt 0 rfl; simp only [List.eraseIdx_cons_succ, List.eraseIdx_cons_zero] at H
        exact ret1 rfl (rv_tmp rfl) rfl ⟨rfl, H⟩
      · have hc1 := hc
        clear hc
        replace hm := ifF hc1 hm
        refine wp_skip ?_
        refine then_norm ?_
        refine wp_seq ?_
        refine wp_seq ?_
        refine wp_region_lit ?_
        apply seq_op (V := .bool false) rfl
        · exact fun _ h => O_mv rfl rfl h
        (try simp only [PT])
        apply seq_op (V := .bool (!false)) rfl
        · exact fun _ h => O_not rfl rfl h
        (try simp only [PT])
        refine list_end ?_
        refine then_norm ?_
        refine wp_cond_split rfl (fun hc => ?_) (fun hc => ?_)
        · have hc2 := hc
          clear hc
          replace hm := ifT hc2 hm
          refine wp_seq ?_
          obtain ⟨u7, gx7, hm⟩ := bs hm
          refine wp_region_lit ?_
          apply seq_op (V := .pointer (some ⟨br20, 0, none⟩)) rfl
          · exact fun _ h => O_mv rfl rfl h
          (try simp only [PT])
          refine seq_opH (V := .string u7) H rfl ?_ ?_
          · intro Φ hΦ; refine O_call1 rfl Tryd.func39 rfl rfl rfl ?_; obtain ⟨sl0, hsl0, hb0, H, bk0, bg0⟩ := lendAt 0 rfl H; simp only [List.eraseIdx_cons_succ, List.eraseIdx_cons_zero, List.cons_append] at H bk0; obtain ⟨sl1, hsl1, hb1, H, bk1, bg1⟩ := lendMapO 0 rfl hsl0 H; simp only [List.eraseIdx_cons_succ, List.eraseIdx_cons_zero, List.cons_append] at H bk1; obtain ⟨sl2, hsl2, hb2, H, bk2, bg2⟩ := lendMapF 0 rfl H; simp only [List.eraseIdx_cons_succ, List.eraseIdx_cons_zero, List.cons_append] at H bk2; refine (model_State_Text_w (a0 := (⟨u6.2.lists, u6.2.regs⟩ : MSt)) (hC_p0 := ((Cells.ofB hb0).mono (hsl1.trans hsl2))) (h_p0_lists := (hb1.mono hsl2)) (h_p0_regs := hb2) (h_gv := (h_gv.mono ((hsl0.trans hsl1).trans hsl2))) (hm := gx7) (H := H)).mono ?_; rintro e w2 ⟨rfl, H⟩; have H := bk2 H; have H := bk1 H; have H := bk0 H; exact ⟨_, rfl, hΦ _ H⟩
          clear H; intro w1 H
          (try simp only [PT])
          apply seq_op (V := .string u3) rfl
          · exact fun _ h => O_mv rfl rfl h
          (try simp only [PT])
          apply seq_op (V := .bool (u7.toList == u3.toList)) rfl
          · exact fun _ h => O_bin rfl rfl rfl eqg_str r_seq h
          (try simp only [PT])
          apply seq_op (V := .bool (u7.toList == u3.toList)) rfl
          · exact fun _ h => O_as rfl rfl h
          (try simp only [PT])
          refine list_end ?_
          refine then_norm ?_
          refine wp_ret ?_
          refine then_ret ?_
          have hm := Option.some.inj hm
          subst hm
          replace H := H.dropAt 9 rfl; simp only [List.eraseIdx_cons_succ, List.eraseIdx_cons_zero] at H
          replace H := H.dropAt 8 rfl; simp only [List.eraseIdx_cons_succ, List.eraseIdx_cons_zero] at H
          replace H := H.dropAt 7 rfl; simp only [List.eraseIdx_cons_succ, List.eraseIdx_cons_zero] at H
          replace H := H.dropAt 6 rfl; simp only [List.eraseIdx_cons_succ, List.eraseIdx_cons_zero] at H
          replace H := H.dropAt 5 rfl; simp only [List.eraseIdx_cons_succ, List.eraseIdx_cons_zero] at H
          replace H := H.dropAt 4 rfl; simp only [List.eraseIdx_cons_succ, List.eraseIdx_cons_zero] at H
          replace H := H.dropAt 3 rfl; simp only [List.eraseIdx_cons_succ, List.eraseIdx_cons_zero] at H
          replace H := H.dropAt 2 rfl; simp only [List.eraseIdx_cons_succ, List.eraseIdx_cons_zero] at H
          replace H := H.dropAt 1 rfl; simp only [List.eraseIdx_cons_succ, List.eraseIdx_cons_zero] at H
          replace H := H.dropAt 0 rfl; simp only [List.eraseIdx_cons_succ, List.eraseIdx_cons_zero] at H
          exact ret1 rfl (rv_tmp rfl) rfl ⟨rfl, H⟩
        · have hc2 := hc
          clear hc
          replace hm := ifF hc2 hm
          refine wp_skip ?_
          refine then_norm ?_
          refine wp_seq ?_
          obtain ⟨u8, gx8, hm⟩ := bs hm
          obtain ⟨u9, gx9, hm⟩ := bs hm
          rcases Bool.eq_false_or_eq_true (u8.toList == u9.toList) with hg3 | hg3
          · replace hm := ifT hg3 hm
            obtain ⟨u10, gx10, hm⟩ := bs hm
            refine wp_region_lit ?_
            apply seq_op (V := .pointer (some ⟨br10, 0, none⟩)) rfl
            · exact fun _ h => O_mv rfl rfl h
            (try simp only [PT])
            refine seq_opH (V := .string u8) H rfl ?_ ?_
            · intro Φ hΦ; refine O_call1 rfl Tryd.func39 rfl rfl rfl ?_; obtain ⟨sl0, hsl0, hb0, H, bk0, bg0⟩ := lendAt 3 rfl H; simp only [List.eraseIdx_cons_succ, List.eraseIdx_cons_zero, List.cons_append] at H bk0; obtain ⟨sl1, hsl1, hb1, H, bk1, bg1⟩ := lendMapO 3 rfl hsl0 H; simp only [List.eraseIdx_cons_succ, List.eraseIdx_cons_zero, List.cons_append] at H bk1; obtain ⟨sl2, hsl2, hb2, H, bk2, bg2⟩ := lendMapF 3 rfl H; simp only [List.eraseIdx_cons_succ, List.eraseIdx_cons_zero, List.cons_append] at H bk2; refine (model_State_Text_w (a0 := (⟨u5.2.lists, u5.2.regs⟩ : MSt)) (hC_p0 := ((Cells.ofB hb0).mono (hsl1.trans hsl2))) (h_p0_lists := (hb1.mono hsl2)) (h_p0_regs := hb2) (h_gv := (h_gv.mono ((hsl0.trans hsl1).trans hsl2))) (hm := gx8) (H := H)).mono ?_; rintro e w2 ⟨rfl, H⟩; have H := bk2 H; have H := bk1 H; have H := bk0 H; exact ⟨_, rfl, hΦ _ H⟩
            clear H; intro w1 H
            (try simp only [PT])
            apply seq_op (V := .pointer (some ⟨br20, 0, none⟩)) rfl
            · exact fun _ h => O_mv rfl rfl h
            (try simp only [PT])
            refine seq_opH (V := .string u9) H rfl ?_ ?_
            · intro Φ hΦ; refine O_call1 rfl Tryd.func39 rfl rfl rfl ?_; obtain ⟨sl0, hsl0, hb0, H, bk0, bg0⟩ := lendAt 0 rfl H; simp only [List.eraseIdx_cons_succ, List.eraseIdx_cons_zero, List.cons_append] at H bk0; obtain ⟨sl1, hsl1, hb1, H, bk1, bg1⟩ := lendMapO 0 rfl hsl0 H; simp only [List.eraseIdx_cons_succ, List.eraseIdx_cons_zero, List.cons_append] at H bk1; obtain ⟨sl2, hsl2, hb2, H, bk2, bg2⟩ := lendMapF 0 rfl H; simp only [List.eraseIdx_cons_succ, List.eraseIdx_cons_zero, List.cons_append] at H bk2; refine (model_State_Text_w (a0 := (⟨u6.2.lists, u6.2.regs⟩ : MSt)) (hC_p0 := ((Cells.ofB hb0).mono (hsl1.trans hsl2))) (h_p0_lists := (hb1.mono hsl2)) (h_p0_regs := hb2) (h_gv := (h_gv.mono ((hsl0.trans hsl1).trans hsl2))) (hm := gx9) (H := H)).mono ?_; rintro e w2 ⟨rfl, H⟩; have H := bk2 H; have H := bk1 H; have H := bk0 H; exact ⟨_, rfl, hΦ _ H⟩
            clear H; intro w1 H
            (try simp only [PT])
            apply seq_op (V := .bool (u8.toList == u9.toList)) rfl
            · exact fun _ h => O_bin rfl rfl rfl eqg_str r_seq h
            (try simp only [PT])
            apply seq_op (V := .bool (u8.toList == u9.toList)) rfl
            · exact fun _ h => O_mv rfl rfl h
            (try simp only [PT])
            refine seq_opw (V := .pointer (some ⟨br11, 0, none⟩)) ((wanted_t rfl rfl rfl).trans hg3) ?_ ?_
            · exact fun _ h => O_mv rfl rfl h
            (try simp only [PT])
            refine seq_opw (V := .slice A_p1 a1.length c_p1) ((wanted_t rfl rfl rfl).trans hg3) ?_ ?_
            · exact fun _ h => O_mv rfl rfl h
            (try simp only [PT])
            replace H := H.front 9 rfl; simp only [List.eraseIdx_cons_succ, List.eraseIdx_cons_zero] at H
            replace H := H.front 9 rfl; simp only [List.eraseIdx_cons_succ, List.eraseIdx_cons_zero] at H
            refine seq_callw ((wanted_t rfl rfl rfl).trans hg3) (fun Φ hΦ => by refine O_call3 rfl Tryd.func43 rfl rfl rfl rfl rfl hΦ) (assayerref16_State_Apply_w (fuel := fuel) (a0 := (⟨u2.2.l⟩ : St16)) (a1 := a1) (h_p1 := h_p1) (a2 := false) (hm := gx10) (H := H)) ?_
            clear H
            rintro e w1 ⟨Ar5o0_l, cr5o0_l, nr5o0_l, rfl, H⟩; refine ⟨_, rfl, ?_⟩
            obtain rfl := osl_len 1 H rfl
            (try simp only [PT])
            apply seq_op (V := .bool u10.1) rfl
            · exact fun _ h => O_pickT rfl rfl hg3 rfl h
            (try simp only [PT])
            apply seq_op (V := .bool u10.1) rfl
            · exact fun _ h => O_as rfl rfl h
            (try simp only [PT])
            refine list_end ?_
            refine then_norm ?_
            refine wp_ret ?_
            have hm := Option.some.inj hm
            subst hm
            replace H := H.dropAt 9 rfl; simp only [List.eraseIdx_cons_succ, List.eraseIdx_cons_zero] at H
            replace H := H.dropAt 8 rfl; simp only [List.eraseIdx_cons_succ, List.eraseIdx_cons_zero] at H
            replace H := H.dropAt 7 rfl; simp only [List.eraseIdx_cons_succ, List.eraseIdx_cons_zero] at H
            replace H := H.dropAt 6 rfl; simp only [List.eraseIdx_cons_succ, List.eraseIdx_cons_zero] at H
            replace H := H.dropAt 5 rfl; simp only [List.eraseIdx_cons_succ, List.eraseIdx_cons_zero] at H
            replace H := H.dropAt 4 rfl; simp only [List.eraseIdx_cons_succ, List.eraseIdx_cons_zero] at H
            replace H := H.dropAt 3 rfl; simp only [List.eraseIdx_cons_succ, List.eraseIdx_cons_zero] at H
            replace H := H.dropAt 2 rfl; simp only [List.eraseIdx_cons_succ, List.eraseIdx_cons_zero] at H
            replace H := H.dropAt 1 rfl; simp only [List.eraseIdx_cons_succ, List.eraseIdx_cons_zero] at H
            replace H := H.dropAt 0 rfl; simp only [List.eraseIdx_cons_succ, List.eraseIdx_cons_zero] at H
            exact ret1 rfl (rv_tmp rfl) rfl ⟨rfl, H⟩
          · replace hm := ifF hg3 hm
            refine wp_region_lit ?_
            apply seq_op (V := .pointer (some ⟨br10, 0, none⟩)) rfl
            · exact fun _ h => O_mv rfl rfl h
            (try simp only [PT])
            refine seq_opH (V := .string u8) H rfl ?_ ?_
            · intro Φ hΦ; refine O_call1 rfl Tryd.func39 rfl rfl rfl ?_; obtain ⟨sl0, hsl0, hb0, H, bk0, bg0⟩ := lendAt 3 rfl H; simp only [List.eraseIdx_cons_succ, List.eraseIdx_cons_zero, List.cons_append] at H bk0; obtain ⟨sl1, hsl1, hb1, H, bk1, bg1⟩ := lendMapO 3 rfl hsl0 H; simp only [List.eraseIdx_cons_succ, List.eraseIdx_cons_zero, List.cons_append] at H bk1; obtain ⟨sl2, hsl2, hb2, H, bk2, bg2⟩ := lendMapF 3 rfl H; simp only [List.eraseIdx_cons_succ, List.eraseIdx_cons_zero, List.cons_append] at H bk2; refine (model_State_Text_w (a0 := (⟨u5.2.lists, u5.2.regs⟩ : MSt)) (hC_p0 := ((Cells.ofB hb0).mono (hsl1.trans hsl2))) (h_p0_lists := (hb1.mono hsl2)) (h_p0_regs := hb2) (h_gv := (h_gv.mono ((hsl0.trans hsl1).trans hsl2))) (hm := gx8) (H := H)).mono ?_; rintro e w2 ⟨rfl, H⟩; have H := bk2 H; have H := bk1 H; have H := bk0 H; exact ⟨_, rfl, hΦ _ H⟩
            clear H; intro w1 H
            (try simp only [PT])
            apply seq_op (V := .pointer (some ⟨br20, 0, none⟩)) rfl
            · exact fun _ h => O_mv rfl rfl h
            (try simp only [PT])
            refine seq_opH (V := .string u9) H rfl ?_ ?_
            · intro Φ hΦ; refine O_call1 rfl Tryd.func39 rfl rfl rfl ?_; obtain ⟨sl0, hsl0, hb0, H, bk0, bg0⟩ := lendAt 0 rfl H; simp only [List.eraseIdx_cons_succ, List.eraseIdx_cons_zero, List.cons_append] at H bk0; obtain ⟨sl1, hsl1, hb1, H, bk1, bg1⟩ := lendMapO 0 rfl hsl0 H; simp only [List.eraseIdx_cons_succ, List.eraseIdx_cons_zero, List.cons_append] at H bk1; obtain ⟨sl2, hsl2, hb2, H, bk2, bg2⟩ := lendMapF 0 rfl H; simp only [List.eraseIdx_cons_succ, List.eraseIdx_cons_zero, List.cons_append] at H bk2; refine (model_State_Text_w (a0 := (⟨u6.2.lists, u6.2.regs⟩ : MSt)) (hC_p0 := ((Cells.ofB hb0).mono (hsl1.trans hsl2))) (h_p0_lists := (hb1.mono hsl2)) (h_p0_regs := hb2) (h_gv := (h_gv.mono ((hsl0.trans hsl1).trans hsl2))) (hm := gx9) (H := H)).mono ?_; rintro e w2 ⟨rfl, H⟩; have H := bk2 H; have H := bk1 H; have H := bk0 H; exact ⟨_, rfl, hΦ _ H⟩
            clear H; intro w1 H
            (try simp only [PT])
            apply seq_op (V := .bool (u8.toList == u9.toList)) rfl
            · exact fun _ h => O_bin rfl rfl rfl eqg_str r_seq h
            (try simp only [PT])
            apply seq_op (V := .bool (u8.toList == u9.toList)) rfl
            · exact fun _ h => O_mv rfl rfl h
            (try simp only [PT])
            refine seq_skip ((wanted_t rfl rfl rfl).trans hg3) ?_
            (try simp only [PT])
            refine seq_skip ((wanted_t rfl rfl rfl).trans hg3) ?_
            (try simp only [PT])
            refine seq_skip ((wanted_t rfl rfl rfl).trans hg3) ?_
            (try simp only [PT])
            apply seq_op (V := .bool false) rfl
            · exact fun _ h => O_pickF rfl rfl hg3 rfl h
            (try simp only [PT])
            apply seq_op (V := .bool false) rfl
            · exact fun _ h => O_as rfl rfl h
            (try simp only [PT])
            refine list_end ?_
            refine then_norm ?_
            refine wp_ret ?_
            have hm := Option.some.inj hm
            subst hm
            replace H := H.dropAt 9 rfl; simp only [List.eraseIdx_cons_succ, List.eraseIdx_cons_zero] at H
            replace H := H.dropAt 8 rfl; simp only [List.eraseIdx_cons_succ, List.eraseIdx_cons_zero] at H
            replace H := H.dropAt 7 rfl; simp only [List.eraseIdx_cons_succ, List.eraseIdx_cons_zero] at H
            replace H := H.dropAt 6 rfl; simp only [List.eraseIdx_cons_succ, List.eraseIdx_cons_zero] at H
            replace H := H.dropAt 5 rfl; simp only [List.eraseIdx_cons_succ, List.eraseIdx_cons_zero] at H
            replace H := H.dropAt 4 rfl; simp only [List.eraseIdx_cons_succ, List.eraseIdx_cons_zero] at H
            replace H := H.dropAt 3 rfl; simp only [List.eraseIdx_cons_succ, List.eraseIdx_cons_zero] at H
            replace H := H.dropAt 2 rfl; simp only [List.eraseIdx_cons_succ, List.eraseIdx_cons_zero] at H
            replace H := H.dropAt 1 rfl; simp only [List.eraseIdx_cons_succ, List.eraseIdx_cons_zero] at H
            replace H := H.dropAt 0 rfl; simp only [List.eraseIdx_cons_succ, List.eraseIdx_cons_zero] at H
            exact ret1 rfl (rv_tmp rfl) rfl ⟨rfl, H⟩
end Go.Proofs.YtemdmpgekegfhaaDoor
