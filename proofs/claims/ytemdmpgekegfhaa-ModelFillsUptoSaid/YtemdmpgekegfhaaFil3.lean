/- Walks, printed by fx.py: part 3. -/
import Derived.Test.YtemdmpgekegfhaaFil2
namespace Go.Proofs.Ytemdmpgekegfhaa
open Go.RowKit
set_option linter.all false
set_option maxRecDepth 10000
def assayerlaw16_ModelFills_l5  : Nat → List Int → (ByteArray → Option (List Int)) → (ByteArray → Option Int) → Option ((Bool ⊕ ((ByteArray → Option (List Int)) × (ByteArray → Option Int))))
  | k5, [] , y5_c0_0, y5_c0_1 => some (.inr (y5_c0_0, y5_c0_1))
  | k5, x5 :: r5, y5_c0_0, y5_c0_1 => (model_State_Apply_f (⟨y5_c0_0, y5_c0_1⟩ : MSt) [(⟨1, ByteArray.mk #[120], x5, [], false, false⟩ : Op'), (⟨3, ByteArray.mk #[120], x5, [], false, false⟩ : Op')] false).bind fun u1 => if (!u1.1) = true then (some (.inl false)) else (assayerlaw16_ModelFills_l5 (k5 + 1) r5 u1.2.lists u1.2.regs)

def assayerlaw16_ModelFills_f (a0 : List Int) (a1 : Int) : Option Bool := (assayerlaw16_ModelFills_l5 0 a0 model_New_f.lists model_New_f.regs).bind fun | .inl z5_r => (some z5_r) | .inr (z5_c0_0, z5_c0_1) => (if (decide ((a0.length : Int) > 0)) = true then ((rdI a0 (IntKind.i64.wrap ((a0.length : Int) - 1))).bind fun u2 => (model_State_Apply_f (⟨z5_c0_0, z5_c0_1⟩ : MSt) [(⟨2, ByteArray.mk #[120], 0, a0, true, false⟩ : Op'), (⟨4, ByteArray.mk #[120], u2, [], true, (a0.length : Int) == 0⟩ : Op')] false).bind fun u3 => if (!u3.1) = true then (some false) else ((app 8 a0 a1).bind fun u4 => (model_State_Apply_f (⟨u3.2.lists, u3.2.regs⟩ : MSt) [(⟨2, ByteArray.mk #[120], 0, u4, true, false⟩ : Op')] false).bind fun u5 => if (!u5.1) = true then ((model_State_Apply_f (⟨u5.2.lists, u5.2.regs⟩ : MSt) [(⟨2, ByteArray.mk #[120], 0, u4, true, false⟩ : Op')] true).bind fun u6 => some u6.1) else (some false))) else ((model_State_Apply_f (⟨z5_c0_0, z5_c0_1⟩ : MSt) [(⟨2, ByteArray.mk #[120], 0, a0, true, false⟩ : Op'), (⟨4, ByteArray.mk #[120], 0, [], true, (a0.length : Int) == 0⟩ : Op')] false).bind fun u6 => if (!u6.1) = true then (some false) else ((app 8 a0 a1).bind fun u7 => (model_State_Apply_f (⟨u6.2.lists, u6.2.regs⟩ : MSt) [(⟨2, ByteArray.mk #[120], 0, u7, true, false⟩ : Op')] false).bind fun u8 => if (!u8.1) = true then ((model_State_Apply_f (⟨u8.2.lists, u8.2.regs⟩ : MSt) [(⟨2, ByteArray.mk #[120], 0, u7, true, false⟩ : Op')] true).bind fun u9 => some u9.1) else (some false))))

set_option maxHeartbeats 4000000 in
theorem assayerlaw16_ModelFills_w {E : World} {s : SH} {L : List HP} {w : World} {a0 : List Int} {a1 : Int} {A_p0 : Option Addr} {c_p0 : Nat} (h_p0 : kI.Sl s (.slice A_p0 a0.length c_p0) a0) (hr_p1 : Kin.inI64 a1) {R : Bool} (hm : assayerlaw16_ModelFills_f a0 a1 = some R) (H : Holds E s (L) w) :
    Calls Try.prog 5 #[.slice A_p0 a0.length c_p0, .int .i64 a1] w fun e w' => e = .returned (.bool R) ∧ Holds E s (L) w' := by
  unfold assayerlaw16_ModelFills_f at hm
  go_enter Try.func5, Try.ntmps5
  refine wp_seq ?_
  refine wp_region_lit ?_
  apply seq_op (V := .bool false) rfl
  · intro Φ hΦ; refine O_as rfl rfl ?_; exact hΦ
  (try simp only [Act.put, List.setIfInBounds_toArray, List.set_cons_succ, List.set_cons_zero])
  refine list_end ?_
  refine then_norm ?_
  refine wp_seq ?_
  refine wp_region_lit ?_
  refine seq_call rfl (fun Φ hΦ => by refine O_call0 rfl Try.func25 rfl rfl  hΦ) (model_New_w  (H := H)) ?_
  clear H
  rintro e w1 ⟨br10, rr10_lists, rr10_regs, rfl, H⟩; refine ⟨_, rfl, ?_⟩
  (try simp only [Act.put, List.setIfInBounds_toArray, List.set_cons_succ, List.set_cons_zero])
  apply seq_op (V := .pointer (some ⟨br10, 0, none⟩)) rfl
  · intro Φ hΦ; refine O_as rfl rfl ?_; exact hΦ
  (try simp only [Act.put, List.setIfInBounds_toArray, List.set_cons_succ, List.set_cons_zero])
  refine list_end ?_
  refine then_norm ?_
  refine wp_seq ?_
  refine wp_seq ?_
  refine wp_region_lit ?_
  apply seq_op (V := .pointer (some ⟨br10, 0, none⟩)) rfl
  · intro Φ hΦ; refine O_mv rfl rfl ?_; exact hΦ
  (try simp only [Act.put, List.setIfInBounds_toArray, List.set_cons_succ, List.set_cons_zero])
  apply seq_op (V := .bool false) rfl
  · intro Φ hΦ; refine O_bin rfl rfl rfl eqg_ptr (r_pnil Try.underlying45) ?_; exact hΦ
  (try simp only [Act.put, List.setIfInBounds_toArray, List.set_cons_succ, List.set_cons_zero])
  refine list_end ?_
  refine then_norm ?_
  refine wp_cond_false rfl ?_
  refine wp_skip ?_
  refine then_norm ?_
  refine wp_seq ?_
  refine wp_seq ?_
  refine wp_region_lit ?_
  apply seq_op (V := .slice A_p0 a0.length c_p0) rfl
  · intro Φ hΦ; refine O_mv rfl rfl ?_; exact hΦ
  (try simp only [Act.put, List.setIfInBounds_toArray, List.set_cons_succ, List.set_cons_zero])
  apply seq_op (V := .int .i64 (a0.length : Int)) rfl
  · intro Φ hΦ; refine O_len rfl Try.underlying33 rfl ?_; exact hΦ
  (try simp only [Act.put, List.setIfInBounds_toArray, List.set_cons_succ, List.set_cons_zero])
  apply seq_op (V := .int .i64 0) rfl
  · intro Φ hΦ; refine O_mv rfl rfl ?_; exact hΦ
  (try simp only [Act.put, List.setIfInBounds_toArray, List.set_cons_succ, List.set_cons_zero])
  refine list_end ?_
  refine then_norm ?_
  refine wp_block ?_
  obtain ⟨R5, hq5, hm⟩ := bs hm
  have hn5 := Nat.le_trans (len_le (d := kI) h_p0 (by decide)) (by decide : (140737488355328 : Nat) ≤ 9223372036854775807)
  refine wp_loopF [none, none, none, none, some 4, none, none, some 7, none, none, none, none, none, none, none, some 15, some 16, some 17, some 18, some 19, some 20, some 21, some 22, some 23, some 24, some 25, some 26, some 27, none, none, none, none, none, none, none, none, none, none, none, none, none, none, none, none, none, none, none, none, none, none, none, none, none, none, none, none, none, none, none, none, none, none, none, none, none, none, none] rfl (by simp) (fun f w => ∃ (k5 : Nat) (r5 : List Int) (y5_c0_0 : ByteArray → Option (List Int)) (r_y5_c0_0 : Nat) (y5_c0_1 : ByteArray → Option Int) (r_y5_c0_1 : Nat), a0.drop k5 = r5 ∧ f 15 = .int .i64 (k5 : Int) ∧ assayerlaw16_ModelFills_l5 k5 r5 y5_c0_0 y5_c0_1 = some R5 ∧ Holds E s (pt br10 (.cells #[.map (some r_y5_c0_0), .map (some r_y5_c0_1)] 112 (0, 0)) :: mpO kcS kI s r_y5_c0_0 y5_c0_0 :: mpF kcS vcI r_y5_c0_1 y5_c0_1 :: L) w) (fun f w => a0.length - (intOf (f 15)).toNat) ?_ ?_
  · exact ⟨0, a0, model_New_f.lists, rr10_lists, model_New_f.regs, rr10_regs, rfl, rfl, hq5, H⟩
  · clear H
    intro f w hI
    obtain ⟨k5, r5, y5_c0_0, r_y5_c0_0, y5_c0_1, r_y5_c0_1, hd5, hf15, hq5', H⟩ := hI
    clear hq5; have hq5 := hq5'; clear hq5'
    simp only [ovm, mixM]
    simp only [hf15]; clear hf15
    refine wp_seq ?_
    refine wp_region_lit ?_
    apply seq_op (V := .bool (decide ((k5 : Int) < (a0.length : Int)))) rfl
    · intro Φ hΦ; refine O_bin rfl rfl rfl eqg_int r_lss ?_; exact hΦ
    (try simp only [Act.put, List.setIfInBounds_toArray, List.set_cons_succ, List.set_cons_zero])
    refine list_end ?_
    refine then_norm ?_
    refine wp_seq ?_
    refine wp_cond_split rfl (fun hc => ?_) (fun hc => ?_)
    · have hc1 := hc
      clear hc
      obtain ⟨x5, r5', rfl, hd5', hd5'', hl5⟩ := rng_t hd5 hc1
      rw [assayerlaw16_ModelFills_l5] at hq5
      refine wp_skip ?_
      refine then_norm ?_
      refine wp_seq ?_
      refine wp_block ?_
      refine wp_seq ?_
      obtain ⟨be1, oe1, rfl, hCe1, h0e1⟩ := kI_el h_p0 hd5'
      refine wp_region_lit ?_
      apply seq_op (V := .pointer (some ⟨be1, oe1 + k5 * 1, none⟩)) rfl
      · intro Φ hΦ; refine O_ix rfl Try.underlying33 (Try.sizeOf3 _) rfl rfl rfl hl5 ?_; exact hΦ
      (try simp only [Act.put, List.setIfInBounds_toArray, List.set_cons_succ, List.set_cons_zero])
      apply seq_op (V := .int .i64 x5) rfl
      · intro Φ hΦ; refine G_s1 _ _ rfl (Try.isAgg3 _) rfl H hCe1 0 rfl rfl ?_; exact hΦ
      (try simp only [Act.put, List.setIfInBounds_toArray, List.set_cons_succ, List.set_cons_zero])
      apply seq_op (V := .int .i64 x5) rfl
      · intro Φ hΦ; refine O_as rfl rfl ?_; exact hΦ
      (try simp only [Act.put, List.setIfInBounds_toArray, List.set_cons_succ, List.set_cons_zero])
      refine list_end ?_
      refine then_norm ?_
      refine wp_seq ?_
      obtain ⟨u1, gx1, hq5⟩ := bs hq5
      refine wp_region_lit ?_
      apply seq_op (V := .pointer (some ⟨br10, 0, none⟩)) rfl
      · intro Φ hΦ; refine O_mv rfl rfl ?_; exact hΦ
      (try simp only [Act.put, List.setIfInBounds_toArray, List.set_cons_succ, List.set_cons_zero])
      apply seq_op (V := .int .i64 x5) rfl
      · intro Φ hΦ; refine O_mv rfl rfl ?_; exact hΦ
      (try simp only [Act.put, List.setIfInBounds_toArray, List.set_cons_succ, List.set_cons_zero])
      apply seq_op (V := .agg #[.int .i64 1, .string (ByteArray.mk #[120]), .int .i64 x5, .slice none 0 0, .bool false, .bool false]) rfl
      · intro Φ hΦ; refine O_bld (cs := [.int .i64 1, .string (ByteArray.mk #[120]), .int .i64 x5, .slice none 0 0, .bool false, .bool false]) rfl (by kernel_rfl) ?_; exact hΦ
      (try simp only [Act.put, List.setIfInBounds_toArray, List.set_cons_succ, List.set_cons_zero])
      apply seq_op (V := .int .i64 x5) rfl
      · intro Φ hΦ; refine O_mv rfl rfl ?_; exact hΦ
      (try simp only [Act.put, List.setIfInBounds_toArray, List.set_cons_succ, List.set_cons_zero])
      apply seq_op (V := .agg #[.int .i64 3, .string (ByteArray.mk #[120]), .int .i64 x5, .slice none 0 0, .bool false, .bool false]) rfl
      · intro Φ hΦ; refine O_bld (cs := [.int .i64 3, .string (ByteArray.mk #[120]), .int .i64 x5, .slice none 0 0, .bool false, .bool false]) rfl (by kernel_rfl) ?_; exact hΦ
      (try simp only [Act.put, List.setIfInBounds_toArray, List.set_cons_succ, List.set_cons_zero])
      refine OpG.list rfl ?_; refine SL_n (d := kOp) (s0 := s) 2 rfl [.agg #[.int .i64 1, .string (ByteArray.mk #[120]), .int .i64 x5, .slice none 0 0, .bool false, .bool false], .agg #[.int .i64 3, .string (ByteArray.mk #[120]), .int .i64 x5, .slice none 0 0, .bool false, .bool false]] (by (simp only [List.map_toArray, List.map_cons, List.map_nil, List.zipIdx_cons, List.zipIdx_nil]) <;> rfl) Try.underlying28 Try.sizeOf35 Try.zeroValue35 rfl [(⟨1, ByteArray.mk #[120], x5, [], false, false⟩ : Op'), (⟨3, ByteArray.mk #[120], x5, [], false, false⟩ : Op')] ⟨(kOp_mk' (s := s) (x := (⟨1, ByteArray.mk #[120], x5, [], false, false⟩ : Op')) (by constructor <;> decide : Kin.inI64 1) (by decide : (ByteArray.mk #[120]).size ≤ 140737488351232) h0e1 Kin.Sl.nil), (kOp_mk' (s := s) (x := (⟨3, ByteArray.mk #[120], x5, [], false, false⟩ : Op')) (by constructor <;> decide : Kin.inI64 3) (by decide : (ByteArray.mk #[120]).size ≤ 140737488351232) h0e1 Kin.Sl.nil), trivial⟩ rfl (by decide) (by decide) (by decide) H ?_; clear H; intro blv1 w1 H
      (try simp only [Act.put, List.setIfInBounds_toArray, List.set_cons_succ, List.set_cons_zero])
      replace H := H.front 3 rfl; simp only [List.eraseIdx_cons_succ, List.eraseIdx_cons_zero] at H
      replace H := H.front 3 rfl; simp only [List.eraseIdx_cons_succ, List.eraseIdx_cons_zero] at H
      replace H := H.front 3 rfl; simp only [List.eraseIdx_cons_succ, List.eraseIdx_cons_zero] at H
      obtain ⟨sl0, hsl0, hb0, H, bk0, bg0⟩ := lendOsl 3 rfl (Sub.refl _) H; simp only [List.eraseIdx_cons_succ, List.eraseIdx_cons_zero, List.cons_append] at H bk0
      replace H := Holds.mapAt 1 rfl (fun h k => mpO_mono hsl0 h k) H; simp only [List.set_cons_succ, List.set_cons_zero] at H
      refine seq_call rfl (fun Φ hΦ => by refine O_call3 rfl Try.func26 rfl rfl rfl rfl rfl hΦ) (model_State_Apply_w (a0 := (⟨y5_c0_0, y5_c0_1⟩ : MSt)) (a1 := [(⟨1, ByteArray.mk #[120], x5, [], false, false⟩ : Op'), (⟨3, ByteArray.mk #[120], x5, [], false, false⟩ : Op')]) (h_p1 := hb0) (a2 := false) (hm := gx1) (H := H)) ?_
      clear H
      rintro e w1 ⟨rr2o0_lists, rr2o0_regs, rfl, H⟩; refine ⟨_, rfl, ?_⟩
      replace H := Holds.mapAt 1 rfl (fun h k => mpO_pure (s0 := sl0) (s1 := s) kI_pure h k) H; simp only [List.set_cons_succ, List.set_cons_zero] at H
      have H := bg0 H
      (try simp only [Act.put, List.setIfInBounds_toArray, List.set_cons_succ, List.set_cons_zero])
      apply seq_op (V := .bool (!u1.1)) rfl
      · intro Φ hΦ; refine O_not rfl rfl ?_; exact hΦ
      (try simp only [Act.put, List.setIfInBounds_toArray, List.set_cons_succ, List.set_cons_zero])
      refine list_end ?_
      refine then_norm ?_
      refine wp_cond_split rfl (fun hc => ?_) (fun hc => ?_)
      · have hc2 := hc
        clear hc
        replace hq5 := ifT hc2 hq5
        refine wp_seq ?_
        refine wp_region_lit ?_
        apply seq_op (V := .bool false) rfl
        · intro Φ hΦ; refine O_as rfl rfl ?_; exact hΦ
        (try simp only [Act.put, List.setIfInBounds_toArray, List.set_cons_succ, List.set_cons_zero])
        refine list_end ?_
        refine then_norm ?_
        refine wp_ret ?_
        refine block_ret ?_
        refine then_ret ?_
        refine then_ret ?_
        refine block_ret ?_
        refine then_ret ?_
        have hq5 := Option.some.inj hq5
        subst hq5
        (try dsimp only at hm)
        have hm := Option.some.inj hm
        subst hm
        replace H := H.dropAt 3 rfl; simp only [List.eraseIdx_cons_succ, List.eraseIdx_cons_zero] at H
        replace H := H.dropAt 2 rfl; simp only [List.eraseIdx_cons_succ, List.eraseIdx_cons_zero] at H
        replace H := H.dropAt 1 rfl; simp only [List.eraseIdx_cons_succ, List.eraseIdx_cons_zero] at H
        replace H := H.dropAt 0 rfl; simp only [List.eraseIdx_cons_succ, List.eraseIdx_cons_zero] at H
        exact ret1 rfl (rv_tmp rfl) rfl ⟨rfl, H⟩
      · have hc2 := hc
        clear hc
        replace hq5 := ifF hc2 hq5
        refine wp_skip ?_
        refine block_norm ?_
        refine then_norm ?_
        refine wp_region_lit ?_
        apply seq_op (V := .int .i64 (IntKind.i64.wrap ((k5 : Int) + 1))) rfl
        · intro Φ hΦ; refine O_bin rfl rfl rfl eqg_int r_add ?_; exact hΦ
        (try simp only [Act.put, List.setIfInBounds_toArray, List.set_cons_succ, List.set_cons_zero])
        apply seq_op (V := .int .i64 (IntKind.i64.wrap ((k5 : Int) + 1))) rfl
        · intro Φ hΦ; refine O_mv rfl rfl ?_; exact hΦ
        (try simp only [Act.put, List.setIfInBounds_toArray, List.set_cons_succ, List.set_cons_zero])
        refine list_end ?_
        refine then_norm ?_
        replace H := H.drop
        refine ⟨⟨⟨rfl, rfl, rfl, rfl, rfl, rfl, rfl, rfl, rfl, rfl, rfl, rfl, rfl, rfl, rfl, rfl, rfl, rfl, rfl, rfl, rfl, rfl, rfl, rfl, rfl, rfl, rfl, rfl, rfl, rfl, rfl, rfl, rfl, rfl, rfl, rfl, rfl, rfl, rfl, rfl, rfl, rfl, rfl, rfl, rfl, rfl, rfl, rfl, rfl, rfl, rfl, rfl, rfl⟩, rfl⟩, ⟨k5 + 1, _, u1.2.lists, rr2o0_lists, u1.2.regs, rr2o0_regs, hd5'', wrap_succ hl5 hn5, hq5, H⟩, ?_⟩
        exact meas_succ hl5 hn5
    · have hc1 := hc
      clear hc
      obtain rfl := rng_f hd5 hc1
      rw [assayerlaw16_ModelFills_l5] at hq5
      refine wp_exit ?_
      refine then_exit ?_
      refine then_exit ?_
      have hq5 := Option.some.inj hq5
      subst hq5
      (try dsimp only at hm)
      refine block_exit ?_
      refine then_norm ?_
      refine wp_seq ?_
      refine wp_region_lit ?_
      apply seq_op (V := .slice A_p0 a0.length c_p0) rfl
      · intro Φ hΦ; refine O_mv rfl rfl ?_; exact hΦ
      (try simp only [Act.put, List.setIfInBounds_toArray, List.set_cons_succ, List.set_cons_zero])
      apply seq_op (V := .int .i64 (a0.length : Int)) rfl
      · intro Φ hΦ; refine O_len rfl Try.underlying33 rfl ?_; exact hΦ
      (try simp only [Act.put, List.setIfInBounds_toArray, List.set_cons_succ, List.set_cons_zero])
      apply seq_op (V := .bool ((a0.length : Int) == 0)) rfl
      · intro Φ hΦ; refine O_bin rfl rfl rfl eqg_int r_eql ?_; exact hΦ
      (try simp only [Act.put, List.setIfInBounds_toArray, List.set_cons_succ, List.set_cons_zero])
      apply seq_op (V := .agg #[.int .i64 4, .string (ByteArray.mk #[120]), .int .i64 0, .slice none 0 0, .bool true, .bool ((a0.length : Int) == 0)]) rfl
      · intro Φ hΦ; refine O_bld (cs := [.int .i64 4, .string (ByteArray.mk #[120]), .int .i64 0, .slice none 0 0, .bool true, .bool ((a0.length : Int) == 0)]) rfl (by kernel_rfl) ?_; exact hΦ
      (try simp only [Act.put, List.setIfInBounds_toArray, List.set_cons_succ, List.set_cons_zero])
      refine OpG.list rfl ?_; refine G_alloc 35 rfl (Try.zeroValue35 _) H ?_; clear H; intro b8 w1 H; (try simp only [Value.cells] at H)
      (try simp only [Act.put, List.setIfInBounds_toArray, List.set_cons_succ, List.set_cons_zero])
      refine OpG.list rfl ?_; refine G_setNi 0 (c := [.int .i64 4, .string (ByteArray.mk #[120]), .int .i64 0, .slice none 0 0, .bool true, .bool ((a0.length : Int) == 0)]) _ _ _ rfl (Try.sizeOf35 _) rfl rfl (by simp [Value.oneCell']) H rfl rfl ?_; clear H; intro w1 H; simp only [List.set_cons_succ, List.set_cons_zero] at H
      (try simp only [Act.put, List.setIfInBounds_toArray, List.set_cons_succ, List.set_cons_zero])
      refine list_end ?_
      refine then_norm ?_
      refine wp_seq ?_
      refine wp_seq ?_
      refine wp_region_lit ?_
      apply seq_op (V := .slice A_p0 a0.length c_p0) rfl
      · intro Φ hΦ; refine O_mv rfl rfl ?_; exact hΦ
      (try simp only [Act.put, List.setIfInBounds_toArray, List.set_cons_succ, List.set_cons_zero])
      apply seq_op (V := .int .i64 (a0.length : Int)) rfl
      · intro Φ hΦ; refine O_len rfl Try.underlying33 rfl ?_; exact hΦ
      (try simp only [Act.put, List.setIfInBounds_toArray, List.set_cons_succ, List.set_cons_zero])
      apply seq_op (V := .bool (decide ((a0.length : Int) > 0))) rfl
      · intro Φ hΦ; refine O_bin rfl rfl rfl eqg_int r_gtr ?_; exact hΦ
      (try simp only [Act.put, List.setIfInBounds_toArray, List.set_cons_succ, List.set_cons_zero])
      refine list_end ?_
      refine then_norm ?_
      refine wp_cond_split rfl (fun hc => ?_) (fun hc => ?_)
      · have hc3 := hc
        clear hc
        replace hm := ifT hc3 hm
        obtain ⟨u2, gx2, hm⟩ := bs hm
        obtain ⟨kk1, gk1, gl1, gd1⟩ := rdI_some gx2
        obtain ⟨be2, oe2, rfl, hCe2, h0e2⟩ := kI_el h_p0 gd1
        refine wp_region_lit ?_
        apply seq_op (V := .slice (some ⟨be2, oe2, none⟩) a0.length c_p0) rfl
        · intro Φ hΦ; refine O_mv rfl rfl ?_; exact hΦ
        (try simp only [Act.put, List.setIfInBounds_toArray, List.set_cons_succ, List.set_cons_zero])
        apply seq_op (V := .slice (some ⟨be2, oe2, none⟩) a0.length c_p0) rfl
        · intro Φ hΦ; refine O_mv rfl rfl ?_; exact hΦ
        (try simp only [Act.put, List.setIfInBounds_toArray, List.set_cons_succ, List.set_cons_zero])
        apply seq_op (V := .int .i64 (a0.length : Int)) rfl
        · intro Φ hΦ; refine O_len rfl Try.underlying33 rfl ?_; exact hΦ
        (try simp only [Act.put, List.setIfInBounds_toArray, List.set_cons_succ, List.set_cons_zero])
        apply seq_op (V := .int .i64 (IntKind.i64.wrap ((a0.length : Int) - 1))) rfl
        · intro Φ hΦ; refine O_bin rfl rfl rfl eqg_int r_sub ?_; exact hΦ
        (try simp only [Act.put, List.setIfInBounds_toArray, List.set_cons_succ, List.set_cons_zero])
        apply seq_op (V := .pointer (some ⟨be2, oe2 + kk1 * 1, none⟩)) rfl
        · intro Φ hΦ; refine O_ix rfl Try.underlying33 (Try.sizeOf3 _) rfl rfl gk1 gl1 ?_; exact hΦ
        (try simp only [Act.put, List.setIfInBounds_toArray, List.set_cons_succ, List.set_cons_zero])
        apply seq_op (V := .int .i64 u2) rfl
        · intro Φ hΦ; refine G_s1 _ _ rfl (Try.isAgg3 _) rfl H hCe2 0 rfl rfl ?_; exact hΦ
        (try simp only [Act.put, List.setIfInBounds_toArray, List.set_cons_succ, List.set_cons_zero])
        apply seq_op (V := .pointer (some ⟨b8, 2, none⟩)) rfl
        · intro Φ hΦ; refine O_fld rfl Try.underlying35 rfl (Try.sizeOf3 _) rfl ?_; exact hΦ
        (try simp only [Act.put, List.setIfInBounds_toArray, List.set_cons_succ, List.set_cons_zero])
        refine OpG.list rfl ?_; refine S_1 0 _ _ _ rfl (Try.sizeOf3 _) rfl (v := .int .i64 u2) rfl H rfl ?_ ?_ ?_; (focus (first | rfl | (simp [Value.oneCell']; done))); (focus (simp; done)); clear H; intro w1 H; simp only [List.set_cons_succ, List.set_cons_zero] at H
        (try simp only [Act.put, List.setIfInBounds_toArray, List.set_cons_succ, List.set_cons_zero])
        refine list_end ?_
        refine then_norm ?_
        refine wp_seq ?_
        refine wp_seq ?_
        obtain ⟨u3, gx3, hm⟩ := bs hm
        refine wp_region_lit ?_
        apply seq_op (V := .pointer (some ⟨br10, 0, none⟩)) rfl
        · intro Φ hΦ; refine O_mv rfl rfl ?_; exact hΦ
        (try simp only [Act.put, List.setIfInBounds_toArray, List.set_cons_succ, List.set_cons_zero])
        apply seq_op (V := .slice (some ⟨be2, oe2, none⟩) a0.length c_p0) rfl
        · intro Φ hΦ; refine O_mv rfl rfl ?_; exact hΦ
        (try simp only [Act.put, List.setIfInBounds_toArray, List.set_cons_succ, List.set_cons_zero])
        apply seq_op (V := .agg #[.int .i64 2, .string (ByteArray.mk #[120]), .int .i64 0, .slice (some ⟨be2, oe2, none⟩) a0.length c_p0, .bool true, .bool false]) rfl
        · intro Φ hΦ; refine O_bld (cs := [.int .i64 2, .string (ByteArray.mk #[120]), .int .i64 0, .slice (some ⟨be2, oe2, none⟩) a0.length c_p0, .bool true, .bool false]) rfl (by kernel_rfl) ?_; exact hΦ
        (try simp only [Act.put, List.setIfInBounds_toArray, List.set_cons_succ, List.set_cons_zero])
        apply seq_op (V := .agg #[.int .i64 4, .string (ByteArray.mk #[120]), .int .i64 u2, .slice none 0 0, .bool true, .bool ((a0.length : Int) == 0)]) rfl
        · intro Φ hΦ; refine G_pNi 0 _ _ rfl (Try.isAgg35 _) rfl H rfl (Try.sizeOf35 _) ?_; exact hΦ
        (try simp only [Act.put, List.setIfInBounds_toArray, List.set_cons_succ, List.set_cons_zero])
        refine OpG.list rfl ?_; refine SL_n (d := kOp) (s0 := s) 2 rfl [.agg #[.int .i64 2, .string (ByteArray.mk #[120]), .int .i64 0, .slice (some ⟨be2, oe2, none⟩) a0.length c_p0, .bool true, .bool false], .agg #[.int .i64 4, .string (ByteArray.mk #[120]), .int .i64 u2, .slice none 0 0, .bool true, .bool ((a0.length : Int) == 0)]] (by (simp only [List.map_toArray, List.map_cons, List.map_nil, List.zipIdx_cons, List.zipIdx_nil]) <;> rfl) Try.underlying28 Try.sizeOf35 Try.zeroValue35 rfl [(⟨2, ByteArray.mk #[120], 0, a0, true, false⟩ : Op'), (⟨4, ByteArray.mk #[120], u2, [], true, (a0.length : Int) == 0⟩ : Op')] ⟨(kOp_mk' (s := s) (x := (⟨2, ByteArray.mk #[120], 0, a0, true, false⟩ : Op')) (by constructor <;> decide : Kin.inI64 2) (by decide : (ByteArray.mk #[120]).size ≤ 140737488351232) (by constructor <;> decide : Kin.inI64 0) h_p0), (kOp_mk' (s := s) (x := (⟨4, ByteArray.mk #[120], u2, [], true, (a0.length : Int) == 0⟩ : Op')) (by constructor <;> decide : Kin.inI64 4) (by decide : (ByteArray.mk #[120]).size ≤ 140737488351232) h0e2 Kin.Sl.nil), trivial⟩ rfl (by decide) (by decide) (by decide) H ?_; clear H; intro blv2 w1 H
        (try simp only [Act.put, List.setIfInBounds_toArray, List.set_cons_succ, List.set_cons_zero])
        replace H := H.front 4 rfl; simp only [List.eraseIdx_cons_succ, List.eraseIdx_cons_zero] at H
        replace H := H.front 4 rfl; simp only [List.eraseIdx_cons_succ, List.eraseIdx_cons_zero] at H
        replace H := H.front 4 rfl; simp only [List.eraseIdx_cons_succ, List.eraseIdx_cons_zero] at H
        obtain ⟨sl0, hsl0, hb0, H, bk0, bg0⟩ := lendOsl 3 rfl (Sub.refl _) H; simp only [List.eraseIdx_cons_succ, List.eraseIdx_cons_zero, List.cons_append] at H bk0
        replace H := Holds.mapAt 1 rfl (fun h k => mpO_mono hsl0 h k) H; simp only [List.set_cons_succ, List.set_cons_zero] at H
        refine seq_call rfl (fun Φ hΦ => by refine O_call3 rfl Try.func26 rfl rfl rfl rfl rfl hΦ) (model_State_Apply_w (a0 := (⟨y5_c0_0, y5_c0_1⟩ : MSt)) (a1 := [(⟨2, ByteArray.mk #[120], 0, a0, true, false⟩ : Op'), (⟨4, ByteArray.mk #[120], u2, [], true, (a0.length : Int) == 0⟩ : Op')]) (h_p1 := hb0) (a2 := false) (hm := gx3) (H := H)) ?_
        clear H
        rintro e w1 ⟨rr3o0_lists, rr3o0_regs, rfl, H⟩; refine ⟨_, rfl, ?_⟩
        replace H := Holds.mapAt 1 rfl (fun h k => mpO_pure (s0 := sl0) (s1 := s) kI_pure h k) H; simp only [List.set_cons_succ, List.set_cons_zero] at H
        have H := bg0 H
        (try simp only [Act.put, List.setIfInBounds_toArray, List.set_cons_succ, List.set_cons_zero])
        apply seq_op (V := .bool (!u3.1)) rfl
        · intro Φ hΦ; refine O_not rfl rfl ?_; exact hΦ
        (try simp only [Act.put, List.setIfInBounds_toArray, List.set_cons_succ, List.set_cons_zero])
        refine list_end ?_
        refine then_norm ?_
        refine wp_cond_split rfl (fun hc => ?_) (fun hc => ?_)
        · have hc4 := hc
          clear hc
          replace hm := ifT hc4 hm
          refine wp_seq ?_
          refine wp_region_lit ?_
          apply seq_op (V := .bool false) rfl
          · intro Φ hΦ; refine O_as rfl rfl ?_; exact hΦ
          (try simp only [Act.put, List.setIfInBounds_toArray, List.set_cons_succ, List.set_cons_zero])
          refine list_end ?_
          refine then_norm ?_
          refine wp_ret ?_
          refine then_ret ?_
          have hm := Option.some.inj hm
          subst hm
          replace H := H.dropAt 4 rfl; simp only [List.eraseIdx_cons_succ, List.eraseIdx_cons_zero] at H
          replace H := H.dropAt 3 rfl; simp only [List.eraseIdx_cons_succ, List.eraseIdx_cons_zero] at H
          replace H := H.dropAt 2 rfl; simp only [List.eraseIdx_cons_succ, List.eraseIdx_cons_zero] at H
          replace H := H.dropAt 1 rfl; simp only [List.eraseIdx_cons_succ, List.eraseIdx_cons_zero] at H
          replace H := H.dropAt 0 rfl; simp only [List.eraseIdx_cons_succ, List.eraseIdx_cons_zero] at H
          exact ret1 rfl (rv_tmp rfl) rfl ⟨rfl, H⟩
        · have hc4 := hc
          clear hc
          replace hm := ifF hc4 hm
          refine wp_skip ?_
          refine then_norm ?_
          refine wp_seq ?_
          obtain ⟨u4, gx4, hm⟩ := bs hm
          obtain ⟨hroomgx4, egx4⟩ := app_some gx4
          refine wp_region_lit ?_
          apply seq_op (V := .slice (some ⟨be2, oe2, none⟩) a0.length c_p0) rfl
          · intro Φ hΦ; refine O_mv rfl rfl ?_; exact hΦ
          (try simp only [Act.put, List.setIfInBounds_toArray, List.set_cons_succ, List.set_cons_zero])
          refine seq_call rfl (fun Φ hΦ => by refine O_call1 rfl Try.func27 rfl rfl rfl hΦ) (clone_kI_w (a0 := a0) (h_p0 := h_p0) (H := H)) ?_
          clear H
          rintro e w1 ⟨Ar40, cr40, nr40, rfl, H⟩; refine ⟨_, rfl, ?_⟩
          obtain rfl := osl_len 0 H rfl
          (try simp only [Act.put, List.setIfInBounds_toArray, List.set_cons_succ, List.set_cons_zero])
          apply seq_op (V := .int .i64 a1) rfl
          · intro Φ hΦ; refine O_mv rfl rfl ?_; exact hΦ
          (try simp only [Act.put, List.setIfInBounds_toArray, List.set_cons_succ, List.set_cons_zero])
          refine OpG.list rfl ?_; refine SL_1 rfl (v := .int .i64 a1) rfl Try.underlying33 Try.sizeOf3 Try.zeroValue3 rfl rfl (by decide) (by decide) H ?_; clear H; intro b52 w1 H; (try simp only [Value.cells] at H)
          (try simp only [Act.put, List.setIfInBounds_toArray, List.set_cons_succ, List.set_cons_zero])
          refine OpG.list rfl ?_; refine AP_1 (p := a1) 0 kI_at _ _ rfl (kI_mk' (s := s) (x := a1) hr_p1) H rfl rfl rfl hroomgx4 ?_; clear H; intro v3 w1 H; (try simp only [List.set_cons_succ, List.set_cons_zero] at H)
          rw [← egx4] at H
          obtain ⟨Av3, cv3, rfl, -⟩ := (H.front 0 rfl).len
          (try simp only [Act.put, List.setIfInBounds_toArray, List.set_cons_succ, List.set_cons_zero])
          apply seq_op (V := .slice Av3 u4.length cv3) rfl
          · intro Φ hΦ; refine O_as rfl rfl ?_; exact hΦ
          (try simp only [Act.put, List.setIfInBounds_toArray, List.set_cons_succ, List.set_cons_zero])
          refine list_end ?_
          refine then_norm ?_
          refine wp_seq ?_
          obtain ⟨u5, gx5, hm⟩ := bs hm
          rcases Bool.eq_false_or_eq_true (!u5.1) with hg1 | hg1
          · replace hm := ifT hg1 hm
            obtain ⟨u6, gx6, hm⟩ := bs hm
            refine wp_region_lit ?_
            apply seq_op (V := .pointer (some ⟨br10, 0, none⟩)) rfl
            · intro Φ hΦ; refine O_mv rfl rfl ?_; exact hΦ
            (try simp only [Act.put, List.setIfInBounds_toArray, List.set_cons_succ, List.set_cons_zero])
            apply seq_op (V := .slice Av3 u4.length cv3) rfl
            · intro Φ hΦ; refine O_mv rfl rfl ?_; exact hΦ
            (try simp only [Act.put, List.setIfInBounds_toArray, List.set_cons_succ, List.set_cons_zero])
            apply seq_op (V := .agg #[.int .i64 2, .string (ByteArray.mk #[120]), .int .i64 0, .slice Av3 u4.length cv3, .bool true, .bool false]) rfl
            · intro Φ hΦ; refine O_bld (cs := [.int .i64 2, .string (ByteArray.mk #[120]), .int .i64 0, .slice Av3 u4.length cv3, .bool true, .bool false]) rfl (by kernel_rfl) ?_; exact hΦ
            (try simp only [Act.put, List.setIfInBounds_toArray, List.set_cons_succ, List.set_cons_zero])
            skip
            obtain ⟨s2, hs', H, hf2⟩ := Kin.Osl.fr H; replace hf2 := hf2.unsh hs'
            replace h_p0 := h_p0.mono hs'
            replace hCe2 := hCe2.mono hs'
            replace H := Holds.mapAt (A := (kOp.sh s).Osl (.slice (some ⟨blv2, 0, none⟩) [(⟨2, ByteArray.mk #[120], 0, a0, true, false⟩ : Op'), (⟨4, ByteArray.mk #[120], u2, [], true, (a0.length : Int) == 0⟩ : Op')].length 2) [(⟨2, ByteArray.mk #[120], 0, a0, true, false⟩ : Op'), (⟨4, ByteArray.mk #[120], u2, [], true, (a0.length : Int) == 0⟩ : Op')]) (B := (kOp.sh s2).Osl (.slice (some ⟨blv2, 0, none⟩) [(⟨2, ByteArray.mk #[120], 0, a0, true, false⟩ : Op'), (⟨4, ByteArray.mk #[120], u2, [], true, (a0.length : Int) == 0⟩ : Op')].length 2) [(⟨2, ByteArray.mk #[120], 0, a0, true, false⟩ : Op'), (⟨4, ByteArray.mk #[120], u2, [], true, (a0.length : Int) == 0⟩ : Op')]) 0 rfl (fun h k => Kin.Osl.sh_mono (d := kOp) hs' h k) H; simp only [List.set_cons_succ, List.set_cons_zero] at H
            replace H := Holds.mapAt (A := mpO kcS kI s rr3o0_lists u3.2.lists) (B := mpO kcS kI s2 rr3o0_lists u3.2.lists) 2 rfl (fun h k => mpO_mono hs' h k) H; simp only [List.set_cons_succ, List.set_cons_zero] at H
            have hS := hs'
            refine OpG.list rfl ?_; refine SL_n (d := kOp) (s0 := s2) 1 rfl [.agg #[.int .i64 2, .string (ByteArray.mk #[120]), .int .i64 0, .slice Av3 u4.length cv3, .bool true, .bool false]] (by (simp only [List.map_toArray, List.map_cons, List.map_nil, List.zipIdx_cons, List.zipIdx_nil]) <;> rfl) Try.underlying28 Try.sizeOf35 Try.zeroValue35 rfl [(⟨2, ByteArray.mk #[120], 0, u4, true, false⟩ : Op')] ⟨(kOp_mk' (s := s2) (x := (⟨2, ByteArray.mk #[120], 0, u4, true, false⟩ : Op')) (by constructor <;> decide : Kin.inI64 2) (by decide : (ByteArray.mk #[120]).size ≤ 140737488351232) (by constructor <;> decide : Kin.inI64 0) hf2), trivial⟩ rfl (by decide) (by decide) (by decide) H ?_; clear H; intro blv5 w1 H
            (try simp only [Act.put, List.setIfInBounds_toArray, List.set_cons_succ, List.set_cons_zero])
            replace H := H.front 4 rfl; simp only [List.eraseIdx_cons_succ, List.eraseIdx_cons_zero] at H
            replace H := H.front 4 rfl; simp only [List.eraseIdx_cons_succ, List.eraseIdx_cons_zero] at H
            replace H := H.front 4 rfl; simp only [List.eraseIdx_cons_succ, List.eraseIdx_cons_zero] at H
            obtain ⟨sl0, hsl0, hb0, H, bk0, bg0⟩ := lendOsl 3 rfl (Sub.refl _) H; simp only [List.eraseIdx_cons_succ, List.eraseIdx_cons_zero, List.cons_append] at H bk0
            replace H := Holds.mapAt 1 rfl (fun h k => mpO_mono hsl0 h k) H; simp only [List.set_cons_succ, List.set_cons_zero] at H
            refine seq_call rfl (fun Φ hΦ => by refine O_call3 rfl Try.func26 rfl rfl rfl rfl rfl hΦ) (model_State_Apply_w (a0 := (⟨u3.2.lists, u3.2.regs⟩ : MSt)) (a1 := [(⟨2, ByteArray.mk #[120], 0, u4, true, false⟩ : Op')]) (h_p1 := hb0) (a2 := false) (hm := gx5) (H := H)) ?_
            clear H
            rintro e w1 ⟨rr6o0_lists, rr6o0_regs, rfl, H⟩; refine ⟨_, rfl, ?_⟩
            replace H := Holds.mapAt 1 rfl (fun h k => mpO_pure (s0 := sl0) (s1 := s2) kI_pure h k) H; simp only [List.set_cons_succ, List.set_cons_zero] at H
            have H := bg0 H
            (try simp only [Act.put, List.setIfInBounds_toArray, List.set_cons_succ, List.set_cons_zero])
            apply seq_op (V := .bool (!u5.1)) rfl
            · intro Φ hΦ; refine O_not rfl rfl ?_; exact hΦ
            (try simp only [Act.put, List.setIfInBounds_toArray, List.set_cons_succ, List.set_cons_zero])
            apply seq_op (V := .bool (!u5.1)) rfl
            · intro Φ hΦ; refine O_mv rfl rfl ?_; exact hΦ
            (try simp only [Act.put, List.setIfInBounds_toArray, List.set_cons_succ, List.set_cons_zero])
            refine seq_opw (V := .pointer (some ⟨br10, 0, none⟩)) ((wanted_t rfl rfl rfl).trans hg1) ?_ ?_
            · intro Φ hΦ; refine O_mv rfl rfl ?_; exact hΦ
            (try simp only [Act.put, List.setIfInBounds_toArray, List.set_cons_succ, List.set_cons_zero])
            refine seq_opw (V := .slice Av3 u4.length cv3) ((wanted_t rfl rfl rfl).trans hg1) ?_ ?_
            · intro Φ hΦ; refine O_mv rfl rfl ?_; exact hΦ
            (try simp only [Act.put, List.setIfInBounds_toArray, List.set_cons_succ, List.set_cons_zero])
            refine seq_opw (V := .agg #[.int .i64 2, .string (ByteArray.mk #[120]), .int .i64 0, .slice Av3 u4.length cv3, .bool true, .bool false]) ((wanted_t rfl rfl rfl).trans hg1) ?_ ?_
            · intro Φ hΦ; refine O_bld (cs := [.int .i64 2, .string (ByteArray.mk #[120]), .int .i64 0, .slice Av3 u4.length cv3, .bool true, .bool false]) rfl (by kernel_rfl) ?_; exact hΦ
            (try simp only [Act.put, List.setIfInBounds_toArray, List.set_cons_succ, List.set_cons_zero])
            refine OpG.listW ((wanted_t rfl rfl rfl).trans hg1) ?_; refine SL_n (d := kOp) (s0 := s2) 1 rfl [.agg #[.int .i64 2, .string (ByteArray.mk #[120]), .int .i64 0, .slice Av3 u4.length cv3, .bool true, .bool false]] (by (simp only [List.map_toArray, List.map_cons, List.map_nil, List.zipIdx_cons, List.zipIdx_nil]) <;> rfl) Try.underlying28 Try.sizeOf35 Try.zeroValue35 rfl [(⟨2, ByteArray.mk #[120], 0, u4, true, false⟩ : Op')] ⟨(kOp_mk' (s := s2) (x := (⟨2, ByteArray.mk #[120], 0, u4, true, false⟩ : Op')) (by constructor <;> decide : Kin.inI64 2) (by decide : (ByteArray.mk #[120]).size ≤ 140737488351232) (by constructor <;> decide : Kin.inI64 0) hf2), trivial⟩ rfl (by decide) (by decide) (by decide) H ?_; clear H; intro blv6 w1 H
            (try simp only [Act.put, List.setIfInBounds_toArray, List.set_cons_succ, List.set_cons_zero])
            replace H := H.front 4 rfl; simp only [List.eraseIdx_cons_succ, List.eraseIdx_cons_zero] at H
            replace H := H.front 4 rfl; simp only [List.eraseIdx_cons_succ, List.eraseIdx_cons_zero] at H
            replace H := H.front 4 rfl; simp only [List.eraseIdx_cons_succ, List.eraseIdx_cons_zero] at H
            obtain ⟨sl0, hsl0, hb0, H, bk0, bg0⟩ := lendOsl 3 rfl (Sub.refl _) H; simp only [List.eraseIdx_cons_succ, List.eraseIdx_cons_zero, List.cons_append] at H bk0
            replace H := Holds.mapAt 1 rfl (fun h k => mpO_mono hsl0 h k) H; simp only [List.set_cons_succ, List.set_cons_zero] at H
            refine seq_callw ((wanted_t rfl rfl rfl).trans hg1) (fun Φ hΦ => by refine O_call3 rfl Try.func26 rfl rfl rfl rfl rfl hΦ) (model_State_Apply_w (a0 := (⟨u5.2.lists, u5.2.regs⟩ : MSt)) (a1 := [(⟨2, ByteArray.mk #[120], 0, u4, true, false⟩ : Op')]) (h_p1 := hb0) (a2 := true) (hm := gx6) (H := H)) ?_
            clear H
            rintro e w1 ⟨rr7o0_lists, rr7o0_regs, rfl, H⟩; refine ⟨_, rfl, ?_⟩
            replace H := Holds.mapAt 1 rfl (fun h k => mpO_pure (s0 := sl0) (s1 := s2) kI_pure h k) H; simp only [List.set_cons_succ, List.set_cons_zero] at H
            have H := bg0 H
            (try simp only [Act.put, List.setIfInBounds_toArray, List.set_cons_succ, List.set_cons_zero])
            apply seq_op (V := .bool u6.1) rfl
            · intro Φ hΦ; refine O_pickT rfl rfl hg1 rfl ?_; exact hΦ
            (try simp only [Act.put, List.setIfInBounds_toArray, List.set_cons_succ, List.set_cons_zero])
            apply seq_op (V := .bool u6.1) rfl
            · intro Φ hΦ; refine O_as rfl rfl ?_; exact hΦ
            (try simp only [Act.put, List.setIfInBounds_toArray, List.set_cons_succ, List.set_cons_zero])
            refine list_end ?_
            refine then_norm ?_
            refine wp_ret ?_
            have hm := Option.some.inj hm
            subst hm
            replace H := H.dropAt 6 rfl; simp only [List.eraseIdx_cons_succ, List.eraseIdx_cons_zero] at H
            replace H := H.dropAt 5 rfl; simp only [List.eraseIdx_cons_succ, List.eraseIdx_cons_zero] at H
            replace H := H.dropAt 4 rfl; simp only [List.eraseIdx_cons_succ, List.eraseIdx_cons_zero] at H
            replace H := H.dropAt 3 rfl; simp only [List.eraseIdx_cons_succ, List.eraseIdx_cons_zero] at H
            replace H := H.dropAt 2 rfl; simp only [List.eraseIdx_cons_succ, List.eraseIdx_cons_zero] at H
            replace H := H.dropAt 1 rfl; simp only [List.eraseIdx_cons_succ, List.eraseIdx_cons_zero] at H
            replace H := H.dropAt 0 rfl; simp only [List.eraseIdx_cons_succ, List.eraseIdx_cons_zero] at H
            replace H := H.forget hS
            exact ret1 rfl (rv_tmp rfl) rfl ⟨rfl, H⟩
          · replace hm := ifF hg1 hm
            refine wp_region_lit ?_
            apply seq_op (V := .pointer (some ⟨br10, 0, none⟩)) rfl
            · intro Φ hΦ; refine O_mv rfl rfl ?_; exact hΦ
            (try simp only [Act.put, List.setIfInBounds_toArray, List.set_cons_succ, List.set_cons_zero])
            apply seq_op (V := .slice Av3 u4.length cv3) rfl
            · intro Φ hΦ; refine O_mv rfl rfl ?_; exact hΦ
            (try simp only [Act.put, List.setIfInBounds_toArray, List.set_cons_succ, List.set_cons_zero])
            apply seq_op (V := .agg #[.int .i64 2, .string (ByteArray.mk #[120]), .int .i64 0, .slice Av3 u4.length cv3, .bool true, .bool false]) rfl
            · intro Φ hΦ; refine O_bld (cs := [.int .i64 2, .string (ByteArray.mk #[120]), .int .i64 0, .slice Av3 u4.length cv3, .bool true, .bool false]) rfl (by kernel_rfl) ?_; exact hΦ
            (try simp only [Act.put, List.setIfInBounds_toArray, List.set_cons_succ, List.set_cons_zero])
            skip
            obtain ⟨s2, hs', H, hf2⟩ := Kin.Osl.fr H; replace hf2 := hf2.unsh hs'
            replace h_p0 := h_p0.mono hs'
            replace hCe2 := hCe2.mono hs'
            replace H := Holds.mapAt (A := (kOp.sh s).Osl (.slice (some ⟨blv2, 0, none⟩) [(⟨2, ByteArray.mk #[120], 0, a0, true, false⟩ : Op'), (⟨4, ByteArray.mk #[120], u2, [], true, (a0.length : Int) == 0⟩ : Op')].length 2) [(⟨2, ByteArray.mk #[120], 0, a0, true, false⟩ : Op'), (⟨4, ByteArray.mk #[120], u2, [], true, (a0.length : Int) == 0⟩ : Op')]) (B := (kOp.sh s2).Osl (.slice (some ⟨blv2, 0, none⟩) [(⟨2, ByteArray.mk #[120], 0, a0, true, false⟩ : Op'), (⟨4, ByteArray.mk #[120], u2, [], true, (a0.length : Int) == 0⟩ : Op')].length 2) [(⟨2, ByteArray.mk #[120], 0, a0, true, false⟩ : Op'), (⟨4, ByteArray.mk #[120], u2, [], true, (a0.length : Int) == 0⟩ : Op')]) 0 rfl (fun h k => Kin.Osl.sh_mono (d := kOp) hs' h k) H; simp only [List.set_cons_succ, List.set_cons_zero] at H
            replace H := Holds.mapAt (A := mpO kcS kI s rr3o0_lists u3.2.lists) (B := mpO kcS kI s2 rr3o0_lists u3.2.lists) 2 rfl (fun h k => mpO_mono hs' h k) H; simp only [List.set_cons_succ, List.set_cons_zero] at H
            have hS := hs'
            refine OpG.list rfl ?_; refine SL_n (d := kOp) (s0 := s2) 1 rfl [.agg #[.int .i64 2, .string (ByteArray.mk #[120]), .int .i64 0, .slice Av3 u4.length cv3, .bool true, .bool false]] (by (simp only [List.map_toArray, List.map_cons, List.map_nil, List.zipIdx_cons, List.zipIdx_nil]) <;> rfl) Try.underlying28 Try.sizeOf35 Try.zeroValue35 rfl [(⟨2, ByteArray.mk #[120], 0, u4, true, false⟩ : Op')] ⟨(kOp_mk' (s := s2) (x := (⟨2, ByteArray.mk #[120], 0, u4, true, false⟩ : Op')) (by constructor <;> decide : Kin.inI64 2) (by decide : (ByteArray.mk #[120]).size ≤ 140737488351232) (by constructor <;> decide : Kin.inI64 0) hf2), trivial⟩ rfl (by decide) (by decide) (by decide) H ?_; clear H; intro blv5 w1 H
            (try simp only [Act.put, List.setIfInBounds_toArray, List.set_cons_succ, List.set_cons_zero])
            replace H := H.front 4 rfl; simp only [List.eraseIdx_cons_succ, List.eraseIdx_cons_zero] at H
            replace H := H.front 4 rfl; simp only [List.eraseIdx_cons_succ, List.eraseIdx_cons_zero] at H
            replace H := H.front 4 rfl; simp only [List.eraseIdx_cons_succ, List.eraseIdx_cons_zero] at H
            obtain ⟨sl0, hsl0, hb0, H, bk0, bg0⟩ := lendOsl 3 rfl (Sub.refl _) H; simp only [List.eraseIdx_cons_succ, List.eraseIdx_cons_zero, List.cons_append] at H bk0
            replace H := Holds.mapAt 1 rfl (fun h k => mpO_mono hsl0 h k) H; simp only [List.set_cons_succ, List.set_cons_zero] at H
            refine seq_call rfl (fun Φ hΦ => by refine O_call3 rfl Try.func26 rfl rfl rfl rfl rfl hΦ) (model_State_Apply_w (a0 := (⟨u3.2.lists, u3.2.regs⟩ : MSt)) (a1 := [(⟨2, ByteArray.mk #[120], 0, u4, true, false⟩ : Op')]) (h_p1 := hb0) (a2 := false) (hm := gx5) (H := H)) ?_
            clear H
            rintro e w1 ⟨rr6o0_lists, rr6o0_regs, rfl, H⟩; refine ⟨_, rfl, ?_⟩
            replace H := Holds.mapAt 1 rfl (fun h k => mpO_pure (s0 := sl0) (s1 := s2) kI_pure h k) H; simp only [List.set_cons_succ, List.set_cons_zero] at H
            have H := bg0 H
            (try simp only [Act.put, List.setIfInBounds_toArray, List.set_cons_succ, List.set_cons_zero])
            apply seq_op (V := .bool (!u5.1)) rfl
            · intro Φ hΦ; refine O_not rfl rfl ?_; exact hΦ
            (try simp only [Act.put, List.setIfInBounds_toArray, List.set_cons_succ, List.set_cons_zero])
            apply seq_op (V := .bool (!u5.1)) rfl
            · intro Φ hΦ; refine O_mv rfl rfl ?_; exact hΦ
            (try simp only [Act.put, List.setIfInBounds_toArray, List.set_cons_succ, List.set_cons_zero])
            refine seq_skip ((wanted_t rfl rfl rfl).trans hg1) ?_
            (try simp only [Act.put, List.setIfInBounds_toArray, List.set_cons_succ, List.set_cons_zero])
            refine seq_skip ((wanted_t rfl rfl rfl).trans hg1) ?_
            (try simp only [Act.put, List.setIfInBounds_toArray, List.set_cons_succ, List.set_cons_zero])
            refine seq_skip ((wanted_t rfl rfl rfl).trans hg1) ?_
            (try simp only [Act.put, List.setIfInBounds_toArray, List.set_cons_succ, List.set_cons_zero])
            refine seq_skip ((wanted_t rfl rfl rfl).trans hg1) ?_
            (try simp only [Act.put, List.setIfInBounds_toArray, List.set_cons_succ, List.set_cons_zero])
            refine seq_skip ((wanted_t rfl rfl rfl).trans hg1) ?_
            (try simp only [Act.put, List.setIfInBounds_toArray, List.set_cons_succ, List.set_cons_zero])
            apply seq_op (V := .bool false) rfl
            · intro Φ hΦ; refine O_pickF rfl rfl hg1 rfl ?_; exact hΦ
            (try simp only [Act.put, List.setIfInBounds_toArray, List.set_cons_succ, List.set_cons_zero])
            apply seq_op (V := .bool false) rfl
            · intro Φ hΦ; refine O_as rfl rfl ?_; exact hΦ
            (try simp only [Act.put, List.setIfInBounds_toArray, List.set_cons_succ, List.set_cons_zero])
            refine list_end ?_
            refine then_norm ?_
            refine wp_ret ?_
            have hm := Option.some.inj hm
            subst hm
            replace H := H.dropAt 5 rfl; simp only [List.eraseIdx_cons_succ, List.eraseIdx_cons_zero] at H
            replace H := H.dropAt 4 rfl; simp only [List.eraseIdx_cons_succ, List.eraseIdx_cons_zero] at H
            replace H := H.dropAt 3 rfl; simp only [List.eraseIdx_cons_succ, List.eraseIdx_cons_zero] at H
            replace H := H.dropAt 2 rfl; simp only [List.eraseIdx_cons_succ, List.eraseIdx_cons_zero] at H
            replace H := H.dropAt 1 rfl; simp only [List.eraseIdx_cons_succ, List.eraseIdx_cons_zero] at H
            replace H := H.dropAt 0 rfl; simp only [List.eraseIdx_cons_succ, List.eraseIdx_cons_zero] at H
            replace H := H.forget hS
            exact ret1 rfl (rv_tmp rfl) rfl ⟨rfl, H⟩
      · have hc3 := hc
        clear hc
        replace hm := ifF hc3 hm
        refine wp_skip ?_
        refine then_norm ?_
        refine wp_seq ?_
        refine wp_seq ?_
        obtain ⟨u6, gx6, hm⟩ := bs hm
        refine wp_region_lit ?_
        apply seq_op (V := .pointer (some ⟨br10, 0, none⟩)) rfl
        · intro Φ hΦ; refine O_mv rfl rfl ?_; exact hΦ
        (try simp only [Act.put, List.setIfInBounds_toArray, List.set_cons_succ, List.set_cons_zero])
        apply seq_op (V := .slice A_p0 a0.length c_p0) rfl
        · intro Φ hΦ; refine O_mv rfl rfl ?_; exact hΦ
        (try simp only [Act.put, List.setIfInBounds_toArray, List.set_cons_succ, List.set_cons_zero])
        apply seq_op (V := .agg #[.int .i64 2, .string (ByteArray.mk #[120]), .int .i64 0, .slice A_p0 a0.length c_p0, .bool true, .bool false]) rfl
        · intro Φ hΦ; refine O_bld (cs := [.int .i64 2, .string (ByteArray.mk #[120]), .int .i64 0, .slice A_p0 a0.length c_p0, .bool true, .bool false]) rfl (by kernel_rfl) ?_; exact hΦ
        (try simp only [Act.put, List.setIfInBounds_toArray, List.set_cons_succ, List.set_cons_zero])
        apply seq_op (V := .agg #[.int .i64 4, .string (ByteArray.mk #[120]), .int .i64 0, .slice none 0 0, .bool true, .bool ((a0.length : Int) == 0)]) rfl
        · intro Φ hΦ; refine G_pNi 0 _ _ rfl (Try.isAgg35 _) rfl H rfl (Try.sizeOf35 _) ?_; exact hΦ
        (try simp only [Act.put, List.setIfInBounds_toArray, List.set_cons_succ, List.set_cons_zero])
        refine OpG.list rfl ?_; refine SL_n (d := kOp) (s0 := s) 2 rfl [.agg #[.int .i64 2, .string (ByteArray.mk #[120]), .int .i64 0, .slice A_p0 a0.length c_p0, .bool true, .bool false], .agg #[.int .i64 4, .string (ByteArray.mk #[120]), .int .i64 0, .slice none 0 0, .bool true, .bool ((a0.length : Int) == 0)]] (by (simp only [List.map_toArray, List.map_cons, List.map_nil, List.zipIdx_cons, List.zipIdx_nil]) <;> rfl) Try.underlying28 Try.sizeOf35 Try.zeroValue35 rfl [(⟨2, ByteArray.mk #[120], 0, a0, true, false⟩ : Op'), (⟨4, ByteArray.mk #[120], 0, [], true, (a0.length : Int) == 0⟩ : Op')] ⟨(kOp_mk' (s := s) (x := (⟨2, ByteArray.mk #[120], 0, a0, true, false⟩ : Op')) (by constructor <;> decide : Kin.inI64 2) (by decide : (ByteArray.mk #[120]).size ≤ 140737488351232) (by constructor <;> decide : Kin.inI64 0) h_p0), (kOp_mk' (s := s) (x := (⟨4, ByteArray.mk #[120], 0, [], true, (a0.length : Int) == 0⟩ : Op')) (by constructor <;> decide : Kin.inI64 4) (by decide : (ByteArray.mk #[120]).size ≤ 140737488351232) (by constructor <;> decide : Kin.inI64 0) Kin.Sl.nil), trivial⟩ rfl (by decide) (by decide) (by decide) H ?_; clear H; intro blv5 w1 H
        (try simp only [Act.put, List.setIfInBounds_toArray, List.set_cons_succ, List.set_cons_zero])
        replace H := H.front 4 rfl; simp only [List.eraseIdx_cons_succ, List.eraseIdx_cons_zero] at H
        replace H := H.front 4 rfl; simp only [List.eraseIdx_cons_succ, List.eraseIdx_cons_zero] at H
        replace H := H.front 4 rfl; simp only [List.eraseIdx_cons_succ, List.eraseIdx_cons_zero] at H
        obtain ⟨sl0, hsl0, hb0, H, bk0, bg0⟩ := lendOsl 3 rfl (Sub.refl _) H; simp only [List.eraseIdx_cons_succ, List.eraseIdx_cons_zero, List.cons_append] at H bk0
        replace H := Holds.mapAt 1 rfl (fun h k => mpO_mono hsl0 h k) H; simp only [List.set_cons_succ, List.set_cons_zero] at H
        refine seq_call rfl (fun Φ hΦ => by refine O_call3 rfl Try.func26 rfl rfl rfl rfl rfl hΦ) (model_State_Apply_w (a0 := (⟨y5_c0_0, y5_c0_1⟩ : MSt)) (a1 := [(⟨2, ByteArray.mk #[120], 0, a0, true, false⟩ : Op'), (⟨4, ByteArray.mk #[120], 0, [], true, (a0.length : Int) == 0⟩ : Op')]) (h_p1 := hb0) (a2 := false) (hm := gx6) (H := H)) ?_
        clear H
        rintro e w1 ⟨rr6o0_lists, rr6o0_regs, rfl, H⟩; refine ⟨_, rfl, ?_⟩
        replace H := Holds.mapAt 1 rfl (fun h k => mpO_pure (s0 := sl0) (s1 := s) kI_pure h k) H; simp only [List.set_cons_succ, List.set_cons_zero] at H
        have H := bg0 H
        (try simp only [Act.put, List.setIfInBounds_toArray, List.set_cons_succ, List.set_cons_zero])
        apply seq_op (V := .bool (!u6.1)) rfl
        · intro Φ hΦ; refine O_not rfl rfl ?_; exact hΦ
        (try simp only [Act.put, List.setIfInBounds_toArray, List.set_cons_succ, List.set_cons_zero])
        refine list_end ?_
        refine then_norm ?_
        refine wp_cond_split rfl (fun hc => ?_) (fun hc => ?_)
        · have hc5 := hc
          clear hc
          replace hm := ifT hc5 hm
          refine wp_seq ?_
          refine wp_region_lit ?_
          apply seq_op (V := .bool false) rfl
          · intro Φ hΦ; refine O_as rfl rfl ?_; exact hΦ
          (try simp only [Act.put, List.setIfInBounds_toArray, List.set_cons_succ, List.set_cons_zero])
          refine list_end ?_
          refine then_norm ?_
          refine wp_ret ?_
          refine then_ret ?_
          have hm := Option.some.inj hm
          subst hm
          replace H := H.dropAt 4 rfl; simp only [List.eraseIdx_cons_succ, List.eraseIdx_cons_zero] at H
          replace H := H.dropAt 3 rfl; simp only [List.eraseIdx_cons_succ, List.eraseIdx_cons_zero] at H
          replace H := H.dropAt 2 rfl; simp only [List.eraseIdx_cons_succ, List.eraseIdx_cons_zero] at H
          replace H := H.dropAt 1 rfl; simp only [List.eraseIdx_cons_succ, List.eraseIdx_cons_zero] at H
          replace H := H.dropAt 0 rfl; simp only [List.eraseIdx_cons_succ, List.eraseIdx_cons_zero] at H
          exact ret1 rfl (rv_tmp rfl) rfl ⟨rfl, H⟩
        · have hc5 := hc
          clear hc
          replace hm := ifF hc5 hm
          refine wp_skip ?_
          refine then_norm ?_
          refine wp_seq ?_
          obtain ⟨u7, gx7, hm⟩ := bs hm
          obtain ⟨hroomgx7, egx7⟩ := app_some gx7
          refine wp_region_lit ?_
          apply seq_op (V := .slice A_p0 a0.length c_p0) rfl
          · intro Φ hΦ; refine O_mv rfl rfl ?_; exact hΦ
          (try simp only [Act.put, List.setIfInBounds_toArray, List.set_cons_succ, List.set_cons_zero])
          refine seq_call rfl (fun Φ hΦ => by refine O_call1 rfl Try.func27 rfl rfl rfl hΦ) (clone_kI_w (a0 := a0) (h_p0 := h_p0) (H := H)) ?_
          clear H
          rintro e w1 ⟨Ar70, cr70, nr70, rfl, H⟩; refine ⟨_, rfl, ?_⟩
          obtain rfl := osl_len 0 H rfl
          (try simp only [Act.put, List.setIfInBounds_toArray, List.set_cons_succ, List.set_cons_zero])
          apply seq_op (V := .int .i64 a1) rfl
          · intro Φ hΦ; refine O_mv rfl rfl ?_; exact hΦ
          (try simp only [Act.put, List.setIfInBounds_toArray, List.set_cons_succ, List.set_cons_zero])
          refine OpG.list rfl ?_; refine SL_1 rfl (v := .int .i64 a1) rfl Try.underlying33 Try.sizeOf3 Try.zeroValue3 rfl rfl (by decide) (by decide) H ?_; clear H; intro b52 w1 H; (try simp only [Value.cells] at H)
          (try simp only [Act.put, List.setIfInBounds_toArray, List.set_cons_succ, List.set_cons_zero])
          refine OpG.list rfl ?_; refine AP_1 (p := a1) 0 kI_at _ _ rfl (kI_mk' (s := s) (x := a1) hr_p1) H rfl rfl rfl hroomgx7 ?_; clear H; intro v6 w1 H; (try simp only [List.set_cons_succ, List.set_cons_zero] at H)
          rw [← egx7] at H
          obtain ⟨Av6, cv6, rfl, -⟩ := (H.front 0 rfl).len
          (try simp only [Act.put, List.setIfInBounds_toArray, List.set_cons_succ, List.set_cons_zero])
          apply seq_op (V := .slice Av6 u7.length cv6) rfl
          · intro Φ hΦ; refine O_as rfl rfl ?_; exact hΦ
          (try simp only [Act.put, List.setIfInBounds_toArray, List.set_cons_succ, List.set_cons_zero])
          refine list_end ?_
          refine then_norm ?_
          refine wp_seq ?_
          obtain ⟨u8, gx8, hm⟩ := bs hm
          rcases Bool.eq_false_or_eq_true (!u8.1) with hg2 | hg2
          · replace hm := ifT hg2 hm
            obtain ⟨u9, gx9, hm⟩ := bs hm
            refine wp_region_lit ?_
            apply seq_op (V := .pointer (some ⟨br10, 0, none⟩)) rfl
            · intro Φ hΦ; refine O_mv rfl rfl ?_; exact hΦ
            (try simp only [Act.put, List.setIfInBounds_toArray, List.set_cons_succ, List.set_cons_zero])
            apply seq_op (V := .slice Av6 u7.length cv6) rfl
            · intro Φ hΦ; refine O_mv rfl rfl ?_; exact hΦ
            (try simp only [Act.put, List.setIfInBounds_toArray, List.set_cons_succ, List.set_cons_zero])
            apply seq_op (V := .agg #[.int .i64 2, .string (ByteArray.mk #[120]), .int .i64 0, .slice Av6 u7.length cv6, .bool true, .bool false]) rfl
            · intro Φ hΦ; refine O_bld (cs := [.int .i64 2, .string (ByteArray.mk #[120]), .int .i64 0, .slice Av6 u7.length cv6, .bool true, .bool false]) rfl (by kernel_rfl) ?_; exact hΦ
            (try simp only [Act.put, List.setIfInBounds_toArray, List.set_cons_succ, List.set_cons_zero])
            skip
            obtain ⟨s3, hs', H, hf3⟩ := Kin.Osl.fr H; replace hf3 := hf3.unsh hs'
            replace h_p0 := h_p0.mono hs'
            replace H := Holds.mapAt (A := (kOp.sh s).Osl (.slice (some ⟨blv5, 0, none⟩) [(⟨2, ByteArray.mk #[120], 0, a0, true, false⟩ : Op'), (⟨4, ByteArray.mk #[120], 0, [], true, (a0.length : Int) == 0⟩ : Op')].length 2) [(⟨2, ByteArray.mk #[120], 0, a0, true, false⟩ : Op'), (⟨4, ByteArray.mk #[120], 0, [], true, (a0.length : Int) == 0⟩ : Op')]) (B := (kOp.sh s3).Osl (.slice (some ⟨blv5, 0, none⟩) [(⟨2, ByteArray.mk #[120], 0, a0, true, false⟩ : Op'), (⟨4, ByteArray.mk #[120], 0, [], true, (a0.length : Int) == 0⟩ : Op')].length 2) [(⟨2, ByteArray.mk #[120], 0, a0, true, false⟩ : Op'), (⟨4, ByteArray.mk #[120], 0, [], true, (a0.length : Int) == 0⟩ : Op')]) 0 rfl (fun h k => Kin.Osl.sh_mono (d := kOp) hs' h k) H; simp only [List.set_cons_succ, List.set_cons_zero] at H
            replace H := Holds.mapAt (A := mpO kcS kI s rr6o0_lists u6.2.lists) (B := mpO kcS kI s3 rr6o0_lists u6.2.lists) 2 rfl (fun h k => mpO_mono hs' h k) H; simp only [List.set_cons_succ, List.set_cons_zero] at H
            have hS := hs'
            refine OpG.list rfl ?_; refine SL_n (d := kOp) (s0 := s3) 1 rfl [.agg #[.int .i64 2, .string (ByteArray.mk #[120]), .int .i64 0, .slice Av6 u7.length cv6, .bool true, .bool false]] (by (simp only [List.map_toArray, List.map_cons, List.map_nil, List.zipIdx_cons, List.zipIdx_nil]) <;> rfl) Try.underlying28 Try.sizeOf35 Try.zeroValue35 rfl [(⟨2, ByteArray.mk #[120], 0, u7, true, false⟩ : Op')] ⟨(kOp_mk' (s := s3) (x := (⟨2, ByteArray.mk #[120], 0, u7, true, false⟩ : Op')) (by constructor <;> decide : Kin.inI64 2) (by decide : (ByteArray.mk #[120]).size ≤ 140737488351232) (by constructor <;> decide : Kin.inI64 0) hf3), trivial⟩ rfl (by decide) (by decide) (by decide) H ?_; clear H; intro blv8 w1 H
            (try simp only [Act.put, List.setIfInBounds_toArray, List.set_cons_succ, List.set_cons_zero])
            replace H := H.front 4 rfl; simp only [List.eraseIdx_cons_succ, List.eraseIdx_cons_zero] at H
            replace H := H.front 4 rfl; simp only [List.eraseIdx_cons_succ, List.eraseIdx_cons_zero] at H
            replace H := H.front 4 rfl; simp only [List.eraseIdx_cons_succ, List.eraseIdx_cons_zero] at H
            obtain ⟨sl0, hsl0, hb0, H, bk0, bg0⟩ := lendOsl 3 rfl (Sub.refl _) H; simp only [List.eraseIdx_cons_succ, List.eraseIdx_cons_zero, List.cons_append] at H bk0
            replace H := Holds.mapAt 1 rfl (fun h k => mpO_mono hsl0 h k) H; simp only [List.set_cons_succ, List.set_cons_zero] at H
            refine seq_call rfl (fun Φ hΦ => by refine O_call3 rfl Try.func26 rfl rfl rfl rfl rfl hΦ) (model_State_Apply_w (a0 := (⟨u6.2.lists, u6.2.regs⟩ : MSt)) (a1 := [(⟨2, ByteArray.mk #[120], 0, u7, true, false⟩ : Op')]) (h_p1 := hb0) (a2 := false) (hm := gx8) (H := H)) ?_
            clear H
            rintro e w1 ⟨rr9o0_lists, rr9o0_regs, rfl, H⟩; refine ⟨_, rfl, ?_⟩
            replace H := Holds.mapAt 1 rfl (fun h k => mpO_pure (s0 := sl0) (s1 := s3) kI_pure h k) H; simp only [List.set_cons_succ, List.set_cons_zero] at H
            have H := bg0 H
            (try simp only [Act.put, List.setIfInBounds_toArray, List.set_cons_succ, List.set_cons_zero])
            apply seq_op (V := .bool (!u8.1)) rfl
            · intro Φ hΦ; refine O_not rfl rfl ?_; exact hΦ
            (try simp only [Act.put, List.setIfInBounds_toArray, List.set_cons_succ, List.set_cons_zero])
            apply seq_op (V := .bool (!u8.1)) rfl
            · intro Φ hΦ; refine O_mv rfl rfl ?_; exact hΦ
            (try simp only [Act.put, List.setIfInBounds_toArray, List.set_cons_succ, List.set_cons_zero])
            refine seq_opw (V := .pointer (some ⟨br10, 0, none⟩)) ((wanted_t rfl rfl rfl).trans hg2) ?_ ?_
            · intro Φ hΦ; refine O_mv rfl rfl ?_; exact hΦ
            (try simp only [Act.put, List.setIfInBounds_toArray, List.set_cons_succ, List.set_cons_zero])
            refine seq_opw (V := .slice Av6 u7.length cv6) ((wanted_t rfl rfl rfl).trans hg2) ?_ ?_
            · intro Φ hΦ; refine O_mv rfl rfl ?_; exact hΦ
            (try simp only [Act.put, List.setIfInBounds_toArray, List.set_cons_succ, List.set_cons_zero])
            refine seq_opw (V := .agg #[.int .i64 2, .string (ByteArray.mk #[120]), .int .i64 0, .slice Av6 u7.length cv6, .bool true, .bool false]) ((wanted_t rfl rfl rfl).trans hg2) ?_ ?_
            · intro Φ hΦ; refine O_bld (cs := [.int .i64 2, .string (ByteArray.mk #[120]), .int .i64 0, .slice Av6 u7.length cv6, .bool true, .bool false]) rfl (by kernel_rfl) ?_; exact hΦ
            (try simp only [Act.put, List.setIfInBounds_toArray, List.set_cons_succ, List.set_cons_zero])
            refine OpG.listW ((wanted_t rfl rfl rfl).trans hg2) ?_; refine SL_n (d := kOp) (s0 := s3) 1 rfl [.agg #[.int .i64 2, .string (ByteArray.mk #[120]), .int .i64 0, .slice Av6 u7.length cv6, .bool true, .bool false]] (by (simp only [List.map_toArray, List.map_cons, List.map_nil, List.zipIdx_cons, List.zipIdx_nil]) <;> rfl) Try.underlying28 Try.sizeOf35 Try.zeroValue35 rfl [(⟨2, ByteArray.mk #[120], 0, u7, true, false⟩ : Op')] ⟨(kOp_mk' (s := s3) (x := (⟨2, ByteArray.mk #[120], 0, u7, true, false⟩ : Op')) (by constructor <;> decide : Kin.inI64 2) (by decide : (ByteArray.mk #[120]).size ≤ 140737488351232) (by constructor <;> decide : Kin.inI64 0) hf3), trivial⟩ rfl (by decide) (by decide) (by decide) H ?_; clear H; intro blv9 w1 H
            (try simp only [Act.put, List.setIfInBounds_toArray, List.set_cons_succ, List.set_cons_zero])
            replace H := H.front 4 rfl; simp only [List.eraseIdx_cons_succ, List.eraseIdx_cons_zero] at H
            replace H := H.front 4 rfl; simp only [List.eraseIdx_cons_succ, List.eraseIdx_cons_zero] at H
            replace H := H.front 4 rfl; simp only [List.eraseIdx_cons_succ, List.eraseIdx_cons_zero] at H
            obtain ⟨sl0, hsl0, hb0, H, bk0, bg0⟩ := lendOsl 3 rfl (Sub.refl _) H; simp only [List.eraseIdx_cons_succ, List.eraseIdx_cons_zero, List.cons_append] at H bk0
            replace H := Holds.mapAt 1 rfl (fun h k => mpO_mono hsl0 h k) H; simp only [List.set_cons_succ, List.set_cons_zero] at H
            refine seq_callw ((wanted_t rfl rfl rfl).trans hg2) (fun Φ hΦ => by refine O_call3 rfl Try.func26 rfl rfl rfl rfl rfl hΦ) (model_State_Apply_w (a0 := (⟨u8.2.lists, u8.2.regs⟩ : MSt)) (a1 := [(⟨2, ByteArray.mk #[120], 0, u7, true, false⟩ : Op')]) (h_p1 := hb0) (a2 := true) (hm := gx9) (H := H)) ?_
            clear H
            rintro e w1 ⟨rr10o0_lists, rr10o0_regs, rfl, H⟩; refine ⟨_, rfl, ?_⟩
            replace H := Holds.mapAt 1 rfl (fun h k => mpO_pure (s0 := sl0) (s1 := s3) kI_pure h k) H; simp only [List.set_cons_succ, List.set_cons_zero] at H
            have H := bg0 H
            (try simp only [Act.put, List.setIfInBounds_toArray, List.set_cons_succ, List.set_cons_zero])
            apply seq_op (V := .bool u9.1) rfl
            · intro Φ hΦ; refine O_pickT rfl rfl hg2 rfl ?_; exact hΦ
            (try simp only [Act.put, List.setIfInBounds_toArray, List.set_cons_succ, List.set_cons_zero])
            apply seq_op (V := .bool u9.1) rfl
            · intro Φ hΦ; refine O_as rfl rfl ?_; exact hΦ
            (try simp only [Act.put, List.setIfInBounds_toArray, List.set_cons_succ, List.set_cons_zero])
            refine list_end ?_
            refine then_norm ?_
            refine wp_ret ?_
            have hm := Option.some.inj hm
            subst hm
            replace H := H.dropAt 6 rfl; simp only [List.eraseIdx_cons_succ, List.eraseIdx_cons_zero] at H
            replace H := H.dropAt 5 rfl; simp only [List.eraseIdx_cons_succ, List.eraseIdx_cons_zero] at H
            replace H := H.dropAt 4 rfl; simp only [List.eraseIdx_cons_succ, List.eraseIdx_cons_zero] at H
            replace H := H.dropAt 3 rfl; simp only [List.eraseIdx_cons_succ, List.eraseIdx_cons_zero] at H
            replace H := H.dropAt 2 rfl; simp only [List.eraseIdx_cons_succ, List.eraseIdx_cons_zero] at H
            replace H := H.dropAt 1 rfl; simp only [List.eraseIdx_cons_succ, List.eraseIdx_cons_zero] at H
            replace H := H.dropAt 0 rfl; simp only [List.eraseIdx_cons_succ, List.eraseIdx_cons_zero] at H
            replace H := H.forget hS
            exact ret1 rfl (rv_tmp rfl) rfl ⟨rfl, H⟩
          · replace hm := ifF hg2 hm
            refine wp_region_lit ?_
            apply seq_op (V := .pointer (some ⟨br10, 0, none⟩)) rfl
            · intro Φ hΦ; refine O_mv rfl rfl ?_; exact hΦ
            (try simp only [Act.put, List.setIfInBounds_toArray, List.set_cons_succ, List.set_cons_zero])
            apply seq_op (V := .slice Av6 u7.length cv6) rfl
            · intro Φ hΦ; refine O_mv rfl rfl ?_; exact hΦ
            (try simp only [Act.put, List.setIfInBounds_toArray, List.set_cons_succ, List.set_cons_zero])
            apply seq_op (V := .agg #[.int .i64 2, .string (ByteArray.mk #[120]), .int .i64 0, .slice Av6 u7.length cv6, .bool true, .bool false]) rfl
            · intro Φ hΦ; refine O_bld (cs := [.int .i64 2, .string (ByteArray.mk #[120]), .int .i64 0, .slice Av6 u7.length cv6, .bool true, .bool false]) rfl (by kernel_rfl) ?_; exact hΦ
            (try simp only [Act.put, List.setIfInBounds_toArray, List.set_cons_succ, List.set_cons_zero])
            skip
            obtain ⟨s3, hs', H, hf3⟩ := Kin.Osl.fr H; replace hf3 := hf3.unsh hs'
            replace h_p0 := h_p0.mono hs'
            replace H := Holds.mapAt (A := (kOp.sh s).Osl (.slice (some ⟨blv5, 0, none⟩) [(⟨2, ByteArray.mk #[120], 0, a0, true, false⟩ : Op'), (⟨4, ByteArray.mk #[120], 0, [], true, (a0.length : Int) == 0⟩ : Op')].length 2) [(⟨2, ByteArray.mk #[120], 0, a0, true, false⟩ : Op'), (⟨4, ByteArray.mk #[120], 0, [], true, (a0.length : Int) == 0⟩ : Op')]) (B := (kOp.sh s3).Osl (.slice (some ⟨blv5, 0, none⟩) [(⟨2, ByteArray.mk #[120], 0, a0, true, false⟩ : Op'), (⟨4, ByteArray.mk #[120], 0, [], true, (a0.length : Int) == 0⟩ : Op')].length 2) [(⟨2, ByteArray.mk #[120], 0, a0, true, false⟩ : Op'), (⟨4, ByteArray.mk #[120], 0, [], true, (a0.length : Int) == 0⟩ : Op')]) 0 rfl (fun h k => Kin.Osl.sh_mono (d := kOp) hs' h k) H; simp only [List.set_cons_succ, List.set_cons_zero] at H
            replace H := Holds.mapAt (A := mpO kcS kI s rr6o0_lists u6.2.lists) (B := mpO kcS kI s3 rr6o0_lists u6.2.lists) 2 rfl (fun h k => mpO_mono hs' h k) H; simp only [List.set_cons_succ, List.set_cons_zero] at H
            have hS := hs'
            refine OpG.list rfl ?_; refine SL_n (d := kOp) (s0 := s3) 1 rfl [.agg #[.int .i64 2, .string (ByteArray.mk #[120]), .int .i64 0, .slice Av6 u7.length cv6, .bool true, .bool false]] (by (simp only [List.map_toArray, List.map_cons, List.map_nil, List.zipIdx_cons, List.zipIdx_nil]) <;> rfl) Try.underlying28 Try.sizeOf35 Try.zeroValue35 rfl [(⟨2, ByteArray.mk #[120], 0, u7, true, false⟩ : Op')] ⟨(kOp_mk' (s := s3) (x := (⟨2, ByteArray.mk #[120], 0, u7, true, false⟩ : Op')) (by constructor <;> decide : Kin.inI64 2) (by decide : (ByteArray.mk #[120]).size ≤ 140737488351232) (by constructor <;> decide : Kin.inI64 0) hf3), trivial⟩ rfl (by decide) (by decide) (by decide) H ?_; clear H; intro blv8 w1 H
            (try simp only [Act.put, List.setIfInBounds_toArray, List.set_cons_succ, List.set_cons_zero])
            replace H := H.front 4 rfl; simp only [List.eraseIdx_cons_succ, List.eraseIdx_cons_zero] at H
            replace H := H.front 4 rfl; simp only [List.eraseIdx_cons_succ, List.eraseIdx_cons_zero] at H
            replace H := H.front 4 rfl; simp only [List.eraseIdx_cons_succ, List.eraseIdx_cons_zero] at H
            obtain ⟨sl0, hsl0, hb0, H, bk0, bg0⟩ := lendOsl 3 rfl (Sub.refl _) H; simp only [List.eraseIdx_cons_succ, List.eraseIdx_cons_zero, List.cons_append] at H bk0
            replace H := Holds.mapAt 1 rfl (fun h k => mpO_mono hsl0 h k) H; simp only [List.set_cons_succ, List.set_cons_zero] at H
            refine seq_call rfl (fun Φ hΦ => by refine O_call3 rfl Try.func26 rfl rfl rfl rfl rfl hΦ) (model_State_Apply_w (a0 := (⟨u6.2.lists, u6.2.regs⟩ : MSt)) (a1 := [(⟨2, ByteArray.mk #[120], 0, u7, true, false⟩ : Op')]) (h_p1 := hb0) (a2 := false) (hm := gx8) (H := H)) ?_
            clear H
            rintro e w1 ⟨rr9o0_lists, rr9o0_regs, rfl, H⟩; refine ⟨_, rfl, ?_⟩
            replace H := Holds.mapAt 1 rfl (fun h k => mpO_pure (s0 := sl0) (s1 := s3) kI_pure h k) H; simp only [List.set_cons_succ, List.set_cons_zero] at H
            have H := bg0 H
            (try simp only [Act.put, List.setIfInBounds_toArray, List.set_cons_succ, List.set_cons_zero])
            apply seq_op (V := .bool (!u8.1)) rfl
            · intro Φ hΦ; refine O_not rfl rfl ?_; exact hΦ
            (try simp only [Act.put, List.setIfInBounds_toArray, List.set_cons_succ, List.set_cons_zero])
            apply seq_op (V := .bool (!u8.1)) rfl
            · intro Φ hΦ; refine O_mv rfl rfl ?_; exact hΦ
            (try simp only [Act.put, List.setIfInBounds_toArray, List.set_cons_succ, List.set_cons_zero])
            refine seq_skip ((wanted_t rfl rfl rfl).trans hg2) ?_
            (try simp only [Act.put, List.setIfInBounds_toArray, List.set_cons_succ, List.set_cons_zero])
            refine seq_skip ((wanted_t rfl rfl rfl).trans hg2) ?_
            (try simp only [Act.put, List.setIfInBounds_toArray, List.set_cons_succ, List.set_cons_zero])
            refine seq_skip ((wanted_t rfl rfl rfl).trans hg2) ?_
            (try simp only [Act.put, List.setIfInBounds_toArray, List.set_cons_succ, List.set_cons_zero])
            refine seq_skip ((wanted_t rfl rfl rfl).trans hg2) ?_
            (try simp only [Act.put, List.setIfInBounds_toArray, List.set_cons_succ, List.set_cons_zero])
            refine seq_skip ((wanted_t rfl rfl rfl).trans hg2) ?_
            (try simp only [Act.put, List.setIfInBounds_toArray, List.set_cons_succ, List.set_cons_zero])
            apply seq_op (V := .bool false) rfl
            · intro Φ hΦ; refine O_pickF rfl rfl hg2 rfl ?_; exact hΦ
            (try simp only [Act.put, List.setIfInBounds_toArray, List.set_cons_succ, List.set_cons_zero])
            apply seq_op (V := .bool false) rfl
            · intro Φ hΦ; refine O_as rfl rfl ?_; exact hΦ
            (try simp only [Act.put, List.setIfInBounds_toArray, List.set_cons_succ, List.set_cons_zero])
            refine list_end ?_
            refine then_norm ?_
            refine wp_ret ?_
            have hm := Option.some.inj hm
            subst hm
            replace H := H.dropAt 5 rfl; simp only [List.eraseIdx_cons_succ, List.eraseIdx_cons_zero] at H
            replace H := H.dropAt 4 rfl; simp only [List.eraseIdx_cons_succ, List.eraseIdx_cons_zero] at H
            replace H := H.dropAt 3 rfl; simp only [List.eraseIdx_cons_succ, List.eraseIdx_cons_zero] at H
            replace H := H.dropAt 2 rfl; simp only [List.eraseIdx_cons_succ, List.eraseIdx_cons_zero] at H
            replace H := H.dropAt 1 rfl; simp only [List.eraseIdx_cons_succ, List.eraseIdx_cons_zero] at H
            replace H := H.dropAt 0 rfl; simp only [List.eraseIdx_cons_succ, List.eraseIdx_cons_zero] at H
            replace H := H.forget hS
            exact ret1 rfl (rv_tmp rfl) rfl ⟨rfl, H⟩
end Go.Proofs.Ytemdmpgekegfhaa
