/- Walks, printed by fx.py: part 2. -/
import Derived.Test.YtemdmpgekegfhaaSea1
namespace Go.Proofs.Ytemdmpgekegfhaa
open Go.RowKit
set_option linter.all false
set_option maxRecDepth 10000
def model_State_Apply_l6 (a2 : Bool) (a0 : MSt) : Nat → List Op' → (ByteArray → Option (List Int)) → (ByteArray → Option Int) → Option (((Bool × MSt) ⊕ ((ByteArray → Option (List Int)) × (ByteArray → Option Int))))
  | k6, [] , y6_c4_0, y6_c4_1 => some (.inr (y6_c4_0, y6_c4_1))
  | k6, x6 :: r6, y6_c4_0, y6_c4_1 => if (!a2) = true then ((model_State_right_f (⟨y6_c4_0, y6_c4_1⟩ : MSt) x6).bind fun u1 => if (!u1) = true then (some (.inl (false, a0))) else (if ((decide (x6.kind > 0)) && (decide (x6.kind < 5))) = true then (if (x6.kind == 0) = true then (model_State_Apply_l6 a2 a0 (k6 + 1) r6 y6_c4_0 y6_c4_1) else (if (x6.kind == 1) = true then ((model_State_append_f (⟨y6_c4_0, y6_c4_1⟩ : MSt) x6).bind fun u2 => model_State_Apply_l6 a2 a0 (k6 + 1) r6 u2.lists u2.regs) else (if (x6.kind == 2) = true then (model_State_Apply_l6 a2 a0 (k6 + 1) r6 y6_c4_0 y6_c4_1) else (if (x6.kind == 3) = true then (model_State_Apply_l6 a2 a0 (k6 + 1) r6 ((model_State_write_f (⟨y6_c4_0, y6_c4_1⟩ : MSt) x6).lists) ((model_State_write_f (⟨y6_c4_0, y6_c4_1⟩ : MSt) x6).regs)) else (if (x6.kind == 4) = true then (model_State_Apply_l6 a2 a0 (k6 + 1) r6 y6_c4_0 y6_c4_1) else (none)))))) else (model_State_Apply_l6 a2 a0 (k6 + 1) r6 y6_c4_0 y6_c4_1))) else (if ((decide (x6.kind > 0)) && (decide (x6.kind < 5))) = true then (if (x6.kind == 0) = true then (model_State_Apply_l6 a2 a0 (k6 + 1) r6 y6_c4_0 y6_c4_1) else (if (x6.kind == 1) = true then ((model_State_append_f (⟨y6_c4_0, y6_c4_1⟩ : MSt) x6).bind fun u1 => model_State_Apply_l6 a2 a0 (k6 + 1) r6 u1.lists u1.regs) else (if (x6.kind == 2) = true then (model_State_Apply_l6 a2 a0 (k6 + 1) r6 y6_c4_0 y6_c4_1) else (if (x6.kind == 3) = true then (model_State_Apply_l6 a2 a0 (k6 + 1) r6 ((model_State_write_f (⟨y6_c4_0, y6_c4_1⟩ : MSt) x6).lists) ((model_State_write_f (⟨y6_c4_0, y6_c4_1⟩ : MSt) x6).regs)) else (if (x6.kind == 4) = true then (model_State_Apply_l6 a2 a0 (k6 + 1) r6 y6_c4_0 y6_c4_1) else (none)))))) else (model_State_Apply_l6 a2 a0 (k6 + 1) r6 y6_c4_0 y6_c4_1))

def model_State_Apply_f (a0 : MSt) (a1 : List Op') (a2 : Bool) : Option (Bool × MSt) := (model_State_Apply_l6 a2 a0 0 a1 ((model_State_Copy_f a0).lists) ((model_State_Copy_f a0).regs)).bind fun | .inl z6_r => (some z6_r) | .inr (z6_c4_0, z6_c4_1) => (some (true, (⟨z6_c4_0, z6_c4_1⟩ : MSt)))

set_option maxHeartbeats 4000000 in
theorem model_State_Apply_w {E : World} {s : SH} {L : List HP} {w : World} {a0 : MSt} {a1 : List Op'} {a2 : Bool} {b_p0 : Nat} {r_p0_lists : Nat} {r_p0_regs : Nat} {A_p1 : Option Addr} {c_p1 : Nat} (h_p1 : kOp.Sl s (.slice A_p1 a1.length c_p1) a1) {R : Bool × MSt} (hm : model_State_Apply_f a0 a1 a2 = some R) (H : Holds E s (pt b_p0 (.cells #[.map (some r_p0_lists), .map (some r_p0_regs)] 112 (0, 0)) :: mpO kcS kI s r_p0_lists a0.lists :: mpF kcS vcI r_p0_regs a0.regs :: L) w) :
    Calls Try.prog 26 #[.pointer (some ⟨b_p0, 0, none⟩), .slice A_p1 a1.length c_p1, .bool a2] w fun e w' => ∃ ro0_lists ro0_regs, e = .returned (.bool R.1) ∧ Holds E s (pt b_p0 (.cells #[.map (some ro0_lists), .map (some ro0_regs)] 112 (0, 0)) :: mpO kcS kI s ro0_lists R.2.lists :: mpF kcS vcI ro0_regs R.2.regs :: L) w' := by
  unfold model_State_Apply_f at hm
  go_enter Try.func26, Try.ntmps26
  refine wp_seq ?_
  refine wp_region_lit ?_
  apply seq_op (V := .bool false) rfl
  · intro Φ hΦ; refine O_as rfl rfl ?_; exact hΦ
  (try simp only [Act.put, List.setIfInBounds_toArray, List.set_cons_succ, List.set_cons_zero])
  refine list_end ?_
  refine then_norm ?_
  refine wp_seq ?_
  refine wp_seq ?_
  refine wp_region_lit ?_
  apply seq_op (V := .pointer (some ⟨b_p0, 0, none⟩)) rfl
  · intro Φ hΦ; refine O_mv rfl rfl ?_; exact hΦ
  (try simp only [Act.put, List.setIfInBounds_toArray, List.set_cons_succ, List.set_cons_zero])
  refine seq_opH (V := .bool false) H rfl ?_ ?_
  · intro Φ hΦ; refine O_call1 rfl Try.func65 rfl rfl rfl ?_; obtain ⟨sl0, hsl0, hb0, H, bk0, bg0⟩ := lendAt 0 rfl H; simp only [List.eraseIdx_cons_succ, List.eraseIdx_cons_zero, List.cons_append] at H bk0; obtain ⟨sl1, hsl1, hb1, H, bk1, bg1⟩ := lendMapO 0 rfl hsl0 H; simp only [List.eraseIdx_cons_succ, List.eraseIdx_cons_zero, List.cons_append] at H bk1; obtain ⟨sl2, hsl2, hb2, H, bk2, bg2⟩ := lendMapF 0 rfl H; simp only [List.eraseIdx_cons_succ, List.eraseIdx_cons_zero, List.cons_append] at H bk2; refine (model_State_none_w (a0 := a0) (hC_p0 := ((Cells.ofB hb0).mono (hsl1.trans hsl2))) (h_p0_lists := (hb1.mono hsl2)) (h_p0_regs := hb2) (H := H)).mono ?_; rintro e w2 ⟨rfl, H⟩; have H := bk2 H; have H := bk1 H; have H := bk0 H; exact ⟨_, rfl, hΦ _ H⟩
  clear H; intro w1 H
  (try simp only [Act.put, List.setIfInBounds_toArray, List.set_cons_succ, List.set_cons_zero])
  refine list_end ?_
  refine then_norm ?_
  refine wp_cond_false rfl ?_
  refine wp_skip ?_
  refine then_norm ?_
  refine wp_seq ?_
  refine wp_region_lit ?_
  apply seq_op (V := .pointer (some ⟨b_p0, 0, none⟩)) rfl
  · intro Φ hΦ; refine O_mv rfl rfl ?_; exact hΦ
  (try simp only [Act.put, List.setIfInBounds_toArray, List.set_cons_succ, List.set_cons_zero])
  obtain ⟨sl0, hsl0, hb0, H, bk0, bg0⟩ := lendAt 0 rfl H; simp only [List.eraseIdx_cons_succ, List.eraseIdx_cons_zero, List.cons_append] at H bk0
  obtain ⟨sl1, hsl1, hb1, H, bk1, bg1⟩ := lendMapO 0 rfl hsl0 H; simp only [List.eraseIdx_cons_succ, List.eraseIdx_cons_zero, List.cons_append] at H bk1
  obtain ⟨sl2, hsl2, hb2, H, bk2, bg2⟩ := lendMapF 0 rfl H; simp only [List.eraseIdx_cons_succ, List.eraseIdx_cons_zero, List.cons_append] at H bk2
  refine seq_call rfl (fun Φ hΦ => by refine O_call1 rfl Try.func35 rfl rfl rfl hΦ) (model_State_Copy_w (a0 := a0) (hC_p0 := ((Cells.ofB hb0).mono (hsl1.trans hsl2))) (h_p0_lists := (hb1.mono hsl2)) (h_p0_regs := hb2) (H := H)) ?_
  clear H
  rintro e w1 ⟨br10, rr10_lists, rr10_regs, rfl, H⟩; refine ⟨_, rfl, ?_⟩
  replace H := Holds.mapAt 1 rfl (fun h k => mpO_pure (s0 := sl2) (s1 := s) kI_pure h k) H; simp only [List.set_cons_succ, List.set_cons_zero] at H
  have H := bg2 H
  have H := bg1 H
  have H := bg0 H
  (try simp only [Act.put, List.setIfInBounds_toArray, List.set_cons_succ, List.set_cons_zero])
  apply seq_op (V := .pointer (some ⟨br10, 0, none⟩)) rfl
  · intro Φ hΦ; refine O_as rfl rfl ?_; exact hΦ
  (try simp only [Act.put, List.setIfInBounds_toArray, List.set_cons_succ, List.set_cons_zero])
  refine list_end ?_
  refine then_norm ?_
  refine wp_seq ?_
  refine wp_region_lit ?_
  apply seq_op (V := .pointer (some ⟨br10, 0, none⟩)) rfl
  · intro Φ hΦ; refine O_mv rfl rfl ?_; exact hΦ
  (try simp only [Act.put, List.setIfInBounds_toArray, List.set_cons_succ, List.set_cons_zero])
  apply seq_op (V := .func (.func 66) #[.pointer (some ⟨br10, 0, none⟩)] #[]) rfl
  · intro Φ hΦ; refine O_mkfb (vb := #[.pointer (some ⟨br10, 0, none⟩)]) (vs := #[]) rfl (by (simp only [List.map_toArray, List.map_cons, List.map_nil]) <;> rfl) (by (simp only [List.map_toArray, List.map_cons, List.map_nil]) <;> rfl) ?_; exact hΦ
  (try simp only [Act.put, List.setIfInBounds_toArray, List.set_cons_succ, List.set_cons_zero])
  apply seq_op (V := .pointer (some ⟨br10, 0, none⟩)) rfl
  · intro Φ hΦ; refine O_mv rfl rfl ?_; exact hΦ
  (try simp only [Act.put, List.setIfInBounds_toArray, List.set_cons_succ, List.set_cons_zero])
  obtain ⟨sl0, hsl0, hb0, H, bk0, bg0⟩ := lendAt 3 rfl H; simp only [List.eraseIdx_cons_succ, List.eraseIdx_cons_zero, List.cons_append] at H bk0
  obtain ⟨sl1, hsl1, hb1, H, bk1, bg1⟩ := lendMapO 3 rfl hsl0 H; simp only [List.eraseIdx_cons_succ, List.eraseIdx_cons_zero, List.cons_append] at H bk1
  obtain ⟨sl2, hsl2, hb2, H, bk2, bg2⟩ := lendMapF 3 rfl H; simp only [List.eraseIdx_cons_succ, List.eraseIdx_cons_zero, List.cons_append] at H bk2
  refine seq_call rfl (fun Φ hΦ => by refine O_call1 rfl Try.func67 rfl rfl rfl hΦ) (model_State_does_w (a0 := (⟨(model_State_Copy_f a0).lists, (model_State_Copy_f a0).regs⟩ : MSt)) (hC_p0 := ((Cells.ofB hb0).mono (hsl1.trans hsl2))) (h_p0_lists := (hb1.mono hsl2)) (h_p0_regs := hb2) (H := H)) ?_
  clear H
  rintro e w1 ⟨rfl, H⟩; refine ⟨_, rfl, ?_⟩
  have H := bk2 H
  have H := bk1 H
  have H := bk0 H
  (try simp only [Act.put, List.setIfInBounds_toArray, List.set_cons_succ, List.set_cons_zero])
  refine OpG.list rfl ?_; refine G_alloc 114 rfl (Try.zeroValue114 _) H ?_; clear H; intro b9 w1 H; (try simp only [Value.cells] at H)
  (try simp only [Act.put, List.setIfInBounds_toArray, List.set_cons_succ, List.set_cons_zero])
  apply seq_op (V := .func (.func 66) #[.pointer (some ⟨br10, 0, none⟩)] #[]) rfl
  · intro Φ hΦ; refine O_as rfl rfl ?_; exact hΦ
  (try simp only [Act.put, List.setIfInBounds_toArray, List.set_cons_succ, List.set_cons_zero])
  refine OpG.list rfl ?_; refine G_setNi 0 (c := [.func (.func 92) #[] #[], .func (.func 93) #[.pointer (some ⟨br10, 0, none⟩)] #[], .func (.func 92) #[] #[], .func (.func 94) #[.pointer (some ⟨br10, 0, none⟩)] #[], .func (.func 92) #[] #[]]) _ _ _ rfl (Try.sizeOf114 _) rfl rfl (by simp [Value.oneCell']) H rfl rfl ?_; clear H; intro w1 H; simp only [List.set_cons_succ, List.set_cons_zero] at H
  (try simp only [Act.put, List.setIfInBounds_toArray, List.set_cons_succ, List.set_cons_zero])
  refine list_end ?_
  refine then_norm ?_
  refine wp_seq ?_
  refine wp_seq ?_
  refine wp_region_lit ?_
  apply seq_op (V := .slice A_p1 a1.length c_p1) rfl
  · intro Φ hΦ; refine O_mv rfl rfl ?_; exact hΦ
  (try simp only [Act.put, List.setIfInBounds_toArray, List.set_cons_succ, List.set_cons_zero])
  apply seq_op (V := .int .i64 (a1.length : Int)) rfl
  · intro Φ hΦ; refine O_len rfl Try.underlying28 rfl ?_; exact hΦ
  (try simp only [Act.put, List.setIfInBounds_toArray, List.set_cons_succ, List.set_cons_zero])
  apply seq_op (V := .int .i64 0) rfl
  · intro Φ hΦ; refine O_mv rfl rfl ?_; exact hΦ
  (try simp only [Act.put, List.setIfInBounds_toArray, List.set_cons_succ, List.set_cons_zero])
  refine list_end ?_
  refine then_norm ?_
  refine wp_block ?_
  obtain ⟨R6, hq6, hm⟩ := bs hm
  have hn6 := Nat.le_trans (len_le (d := kOp) h_p1 (by decide)) (by decide : (140737488355328 : Nat) ≤ 9223372036854775807)
  refine wp_loopF [none, none, none, none, none, none, some 6, none, none, none, none, some 11, none, none, none, none, none, none, none, none, none, none, some 22, some 23, some 24, some 25, some 26, some 27, some 28, some 29, some 30, some 31, some 32, some 33, some 34, some 35, some 36, some 37, some 38, some 39, some 40, some 41, some 42, some 43, some 44, some 45, some 46, some 47, some 48, none, none, none, none, none] rfl (by simp) (fun f w => ∃ (k6 : Nat) (r6 : List Op') (y6_c4_0 : ByteArray → Option (List Int)) (r_y6_c4_0 : Nat) (y6_c4_1 : ByteArray → Option Int) (r_y6_c4_1 : Nat), a1.drop k6 = r6 ∧ f 22 = .int .i64 (k6 : Int) ∧ model_State_Apply_l6 a2 a0 k6 r6 y6_c4_0 y6_c4_1 = some R6 ∧ Holds E s (pt b9 (.cells #[.func (.func 92) #[] #[], .func (.func 93) #[.pointer (some ⟨br10, 0, none⟩)] #[], .func (.func 92) #[] #[], .func (.func 94) #[.pointer (some ⟨br10, 0, none⟩)] #[], .func (.func 92) #[] #[]] 114 (0, 0)) :: pt b_p0 (.cells #[.map (some r_p0_lists), .map (some r_p0_regs)] 112 (0, 0)) :: mpO kcS kI s r_p0_lists a0.lists :: mpF kcS vcI r_p0_regs a0.regs :: pt br10 (.cells #[.map (some r_y6_c4_0), .map (some r_y6_c4_1)] 112 (0, 0)) :: mpO kcS kI s r_y6_c4_0 y6_c4_0 :: mpF kcS vcI r_y6_c4_1 y6_c4_1 :: L) w) (fun f w => a1.length - (intOf (f 22)).toNat) ?_ ?_
  · exact ⟨0, a1, ((model_State_Copy_f a0).lists), rr10_lists, ((model_State_Copy_f a0).regs), rr10_regs, rfl, rfl, hq6, H⟩
  · clear H
    intro f w hI
    obtain ⟨k6, r6, y6_c4_0, r_y6_c4_0, y6_c4_1, r_y6_c4_1, hd6, hf22, hq6', H⟩ := hI
    clear hq6; have hq6 := hq6'; clear hq6'
    simp only [ovm, mixM]
    simp only [hf22]; clear hf22
    refine wp_seq ?_
    refine wp_region_lit ?_
    apply seq_op (V := .bool (decide ((k6 : Int) < (a1.length : Int)))) rfl
    · intro Φ hΦ; refine O_bin rfl rfl rfl eqg_int r_lss ?_; exact hΦ
    (try simp only [Act.put, List.setIfInBounds_toArray, List.set_cons_succ, List.set_cons_zero])
    refine list_end ?_
    refine then_norm ?_
    refine wp_seq ?_
    refine wp_cond_split rfl (fun hc => ?_) (fun hc => ?_)
    · have hc1 := hc
      clear hc
      obtain ⟨x6, r6', rfl, hd6', hd6'', hl6⟩ := rng_t hd6 hc1
      rw [model_State_Apply_l6] at hq6
      refine wp_skip ?_
      refine then_norm ?_
      refine wp_seq ?_
      refine wp_block ?_
      refine wp_seq ?_
      obtain ⟨be1, oe1, A3e1, c3e1, rfl, hCe1, h0e1, h1e1, h2e1, h3e1⟩ := kOp_el h_p1 hd6'
      refine wp_region_lit ?_
      apply seq_op (V := .pointer (some ⟨be1, oe1 + k6 * 6, none⟩)) rfl
      · intro Φ hΦ; refine O_ix rfl Try.underlying28 (Try.sizeOf35 _) rfl rfl rfl hl6 ?_; exact hΦ
      (try simp only [Act.put, List.setIfInBounds_toArray, List.set_cons_succ, List.set_cons_zero])
      apply seq_op (V := .agg #[.int .i64 x6.kind, .string x6.key, .int .i64 x6.value, .slice A3e1 x6.list.length c3e1, .bool x6.has, .bool x6.isNil]) rfl
      · intro Φ hΦ; refine G_sN _ _ rfl (Try.isAgg35 _) rfl H hCe1 (Try.sizeOf35 _) ?_; exact hΦ
      (try simp only [Act.put, List.setIfInBounds_toArray, List.set_cons_succ, List.set_cons_zero])
      refine OpG.list rfl ?_; refine G_alloc 35 rfl (Try.zeroValue35 _) H ?_; clear H; intro b11 w1 H; (try simp only [Value.cells] at H)
      (try simp only [Act.put, List.setIfInBounds_toArray, List.set_cons_succ, List.set_cons_zero])
      refine OpG.list rfl ?_; refine G_setNi 0 (c := [.int .i64 x6.kind, .string x6.key, .int .i64 x6.value, .slice A3e1 x6.list.length c3e1, .bool x6.has, .bool x6.isNil]) _ _ _ rfl (Try.sizeOf35 _) rfl rfl (by simp [Value.oneCell']) H rfl rfl ?_; clear H; intro w1 H; simp only [List.set_cons_succ, List.set_cons_zero] at H
      (try simp only [Act.put, List.setIfInBounds_toArray, List.set_cons_succ, List.set_cons_zero])
      refine list_end ?_
      refine then_norm ?_
      refine wp_seq ?_
      refine wp_seq ?_
      rcases Bool.eq_false_or_eq_true (!a2) with hg1 | hg1
      · replace hq6 := ifT hg1 hq6
        obtain ⟨u1, gx1, hq6⟩ := bs hq6
        refine wp_region_lit ?_
        apply seq_op (V := .bool a2) rfl
        · intro Φ hΦ; refine O_mv rfl rfl ?_; exact hΦ
        (try simp only [Act.put, List.setIfInBounds_toArray, List.set_cons_succ, List.set_cons_zero])
        apply seq_op (V := .bool (!a2)) rfl
        · intro Φ hΦ; refine O_not rfl rfl ?_; exact hΦ
        (try simp only [Act.put, List.setIfInBounds_toArray, List.set_cons_succ, List.set_cons_zero])
        apply seq_op (V := .bool (!a2)) rfl
        · intro Φ hΦ; refine O_mv rfl rfl ?_; exact hΦ
        (try simp only [Act.put, List.setIfInBounds_toArray, List.set_cons_succ, List.set_cons_zero])
        refine seq_opw (V := .func (.func 66) #[.pointer (some ⟨br10, 0, none⟩)] #[]) ((wanted_t rfl rfl rfl).trans hg1) ?_ ?_
        · intro Φ hΦ; refine O_mv rfl rfl ?_; exact hΦ
        (try simp only [Act.put, List.setIfInBounds_toArray, List.set_cons_succ, List.set_cons_zero])
        refine seq_opw (V := .agg #[.int .i64 x6.kind, .string x6.key, .int .i64 x6.value, .slice A3e1 x6.list.length c3e1, .bool x6.has, .bool x6.isNil]) ((wanted_t rfl rfl rfl).trans hg1) ?_ ?_
        · intro Φ hΦ; refine G_pNi 0 _ _ rfl (Try.isAgg35 _) rfl H rfl (Try.sizeOf35 _) ?_; exact hΦ
        (try simp only [Act.put, List.setIfInBounds_toArray, List.set_cons_succ, List.set_cons_zero])
        refine seq_opHw (V := .bool u1) H ((wanted_t rfl rfl rfl).trans hg1) ?_ ?_
        · intro Φ hΦ; refine O_callb1 rfl Try.func66 rfl rfl rfl rfl ?_; obtain ⟨sl0, hsl0, hb0, H, bk0, bg0⟩ := lendAt 5 rfl H; simp only [List.eraseIdx_cons_succ, List.eraseIdx_cons_zero, List.cons_append] at H bk0; obtain ⟨sl1, hsl1, hb1, H, bk1, bg1⟩ := lendMapO 5 rfl hsl0 H; simp only [List.eraseIdx_cons_succ, List.eraseIdx_cons_zero, List.cons_append] at H bk1; obtain ⟨sl2, hsl2, hb2, H, bk2, bg2⟩ := lendMapF 5 rfl H; simp only [List.eraseIdx_cons_succ, List.eraseIdx_cons_zero, List.cons_append] at H bk2; refine (model_State_right_w (a0 := (⟨y6_c4_0, y6_c4_1⟩ : MSt)) (hC_p0 := ((Cells.ofB hb0).mono (hsl1.trans hsl2))) (h_p0_lists := (hb1.mono hsl2)) (h_p0_regs := hb2) (a1 := x6) (hz_p1_key := h1e1) (h_p1_list := (h3e1.mono ((hsl0.trans hsl1).trans hsl2))) (hm := gx1) (H := H)).mono ?_; rintro e w2 ⟨rfl, H⟩; have H := bk2 H; have H := bk1 H; have H := bk0 H; exact ⟨_, rfl, hΦ _ H⟩
        clear H; intro w1 H
        (try simp only [Act.put, List.setIfInBounds_toArray, List.set_cons_succ, List.set_cons_zero])
        refine seq_opw (V := .bool (!u1)) ((wanted_t rfl rfl rfl).trans hg1) ?_ ?_
        · intro Φ hΦ; refine O_not rfl rfl ?_; exact hΦ
        (try simp only [Act.put, List.setIfInBounds_toArray, List.set_cons_succ, List.set_cons_zero])
        apply seq_op (V := .bool (!u1)) rfl
        · intro Φ hΦ; refine O_pickT rfl rfl hg1 rfl ?_; exact hΦ
        (try simp only [Act.put, List.setIfInBounds_toArray, List.set_cons_succ, List.set_cons_zero])
        refine list_end ?_
        refine then_norm ?_
        refine wp_cond_split rfl (fun hc => ?_) (fun hc => ?_)
        · have hc2 := hc
          clear hc
          replace hq6 := ifT hc2 hq6
          refine wp_seq ?_
          refine wp_region_lit ?_
          apply seq_op (V := .bool false) rfl
          · intro Φ hΦ; refine O_as rfl rfl ?_; exact hΦ
          (try simp only [Act.put, List.setIfInBounds_toArray, List.set_cons_succ, List.set_cons_zero])
          refine list_end ?_
          refine then_norm ?_
          refine wp_ret ?_
          refine then_ret ?_
          refine block_ret ?_
          refine then_ret ?_
          refine then_ret ?_
          refine block_ret ?_
          refine then_ret ?_
          have hq6 := Option.some.inj hq6
          subst hq6
          (try dsimp only at hm)
          have hm := Option.some.inj hm
          subst hm
          replace H := H.front 4 rfl; simp only [List.eraseIdx_cons_succ, List.eraseIdx_cons_zero] at H
          replace H := H.front 4 rfl; simp only [List.eraseIdx_cons_succ, List.eraseIdx_cons_zero] at H
          replace H := H.front 4 rfl; simp only [List.eraseIdx_cons_succ, List.eraseIdx_cons_zero] at H
          replace H := H.dropAt 7 rfl; simp only [List.eraseIdx_cons_succ, List.eraseIdx_cons_zero] at H
          replace H := H.dropAt 6 rfl; simp only [List.eraseIdx_cons_succ, List.eraseIdx_cons_zero] at H
          replace H := H.dropAt 5 rfl; simp only [List.eraseIdx_cons_succ, List.eraseIdx_cons_zero] at H
          replace H := H.dropAt 4 rfl; simp only [List.eraseIdx_cons_succ, List.eraseIdx_cons_zero] at H
          replace H := H.dropAt 3 rfl; simp only [List.eraseIdx_cons_succ, List.eraseIdx_cons_zero] at H
          exact ret1 rfl (rv_tmp rfl) rfl ⟨r_p0_lists, r_p0_regs, rfl, H⟩
        · have hc2 := hc
          clear hc
          replace hq6 := ifF hc2 hq6
          refine wp_skip ?_
          refine then_norm ?_
          refine wp_seq ?_
          refine wp_region_lit ?_
          apply seq_op (V := .pointer (some ⟨b11, 0, none⟩)) rfl
          · intro Φ hΦ; refine O_fld rfl Try.underlying35 rfl (Try.sizeOf3 _) rfl ?_; exact hΦ
          (try simp only [Act.put, List.setIfInBounds_toArray, List.set_cons_succ, List.set_cons_zero])
          apply seq_op (V := .int .i64 x6.kind) rfl
          · intro Φ hΦ; refine L_1 0 _ _ rfl (Try.isAgg3 _) rfl H rfl rfl ?_; exact hΦ
          (try simp only [Act.put, List.setIfInBounds_toArray, List.set_cons_succ, List.set_cons_zero])
          apply seq_op (V := .bool (decide (x6.kind > 0))) rfl
          · intro Φ hΦ; refine O_bin rfl rfl rfl eqg_int r_gtr ?_; exact hΦ
          (try simp only [Act.put, List.setIfInBounds_toArray, List.set_cons_succ, List.set_cons_zero])
          apply seq_op (V := .bool (decide (x6.kind > 0))) rfl
          · intro Φ hΦ; refine O_mv rfl rfl ?_; exact hΦ
          (try simp only [Act.put, List.setIfInBounds_toArray, List.set_cons_succ, List.set_cons_zero])
          refine seq_opg (c := (decide (x6.kind > 0))) (V := .pointer (some ⟨b11, 0, none⟩)) (by first | exact wanted_t rfl rfl rfl | exact wanted_vt rfl rfl rfl) ?_ ?_
          · intro hc Φ hΦ; refine O_fld rfl Try.underlying35 rfl (Try.sizeOf3 _) rfl ?_; exact hΦ
          (try simp only [Act.put, List.setIfInBounds_toArray, List.set_cons_succ, List.set_cons_zero])
          refine seq_opg (c := (decide (x6.kind > 0))) (V := .int .i64 x6.kind) (by first | exact wanted_t rfl rfl rfl | exact wanted_vt rfl rfl rfl) ?_ ?_
          · intro hc Φ hΦ; (repeat (first | rw [vg_of hc] | rw [vg_of (and_l hc)] | rw [vg_of (and_l (and_l hc))] | rw [vg_of (and_l (and_l (and_l hc)))] | rw [vg_and hc])); refine L_1 0 _ _ rfl (Try.isAgg3 _) rfl H rfl rfl ?_; exact hΦ
          (try simp only [Act.put, List.setIfInBounds_toArray, List.set_cons_succ, List.set_cons_zero])
          refine seq_opg (c := (decide (x6.kind > 0))) (V := .bool (decide (x6.kind < 5))) (by first | exact wanted_t rfl rfl rfl | exact wanted_vt rfl rfl rfl) ?_ ?_
          · intro hc Φ hΦ; (repeat (first | rw [vg_of hc] | rw [vg_of (and_l hc)] | rw [vg_of (and_l (and_l hc))] | rw [vg_of (and_l (and_l (and_l hc)))] | rw [vg_and hc])); refine O_bin rfl rfl rfl eqg_int r_lss ?_; exact hΦ
          (try simp only [Act.put, List.setIfInBounds_toArray, List.set_cons_succ, List.set_cons_zero])
          apply seq_op (V := .bool ((decide (x6.kind > 0)) && (decide (x6.kind < 5)))) rfl
          · intro Φ hΦ; refine G_and _ _ _ rfl rfl rfl rfl ?_; exact hΦ
          (try simp only [Act.put, List.setIfInBounds_toArray, List.set_cons_succ, List.set_cons_zero])
          refine list_end ?_
          refine then_norm ?_
          refine wp_cond_split rfl (fun hc => ?_) (fun hc => ?_)
          · have hc3 := hc
            clear hc
            replace hq6 := ifT hc3 hq6
            rcases Bool.eq_false_or_eq_true (x6.kind == 0) with hg2 | hg2
            · replace hq6 := ifT hg2 hq6
              refine wp_draw_C (k := 6) (sz := 54) [5] [.pointer (some ⟨b11, 0, none⟩), .int .i64 x6.kind, .pointer (some ⟨b9, 0, none⟩), .func (.func 92) #[] #[], .agg #[.int .i64 x6.kind, .string x6.key, .int .i64 x6.value, .slice A3e1 x6.list.length c3e1, .bool x6.has, .bool x6.isNil], undef] [pt b11 (.cells #[.int .i64 x6.kind, .string x6.key, .int .i64 x6.value, .slice A3e1 x6.list.length c3e1, .bool x6.has, .bool x6.isNil] 35 (0, 0)), pt b9 (.cells #[.func (.func 92) #[] #[], .func (.func 93) #[.pointer (some ⟨br10, 0, none⟩)] #[], .func (.func 92) #[] #[], .func (.func 94) #[.pointer (some ⟨br10, 0, none⟩)] #[], .func (.func 92) #[] #[]] 114 (0, 0))] [fun w x => x 5 = .tuple #[] ∧ Holds E s (pt b11 (.cells #[.int .i64 x6.kind, .string x6.key, .int .i64 x6.value, .slice A3e1 x6.list.length c3e1, .bool x6.has, .bool x6.isNil] 35 (0, 0)) :: pt b9 (.cells #[.func (.func 92) #[] #[], .func (.func 93) #[.pointer (some ⟨br10, 0, none⟩)] #[], .func (.func 92) #[] #[], .func (.func 94) #[.pointer (some ⟨br10, 0, none⟩)] #[], .func (.func 92) #[] #[]] 114 (0, 0)) :: pt b_p0 (.cells #[.map (some r_p0_lists), .map (some r_p0_regs)] 112 (0, 0)) :: mpO kcS kI s r_p0_lists a0.lists :: mpF kcS vcI r_p0_regs a0.regs :: pt br10 (.cells #[.map (some r_y6_c4_0), .map (some r_y6_c4_1)] 112 (0, 0)) :: mpO kcS kI s r_y6_c4_0 y6_c4_0 :: mpF kcS vcI r_y6_c4_1 y6_c4_1 :: L) w] mixed (by simp) rfl (by kernel_rfl) (by kernel_rfl) (by kernel_rfl) (by simp) rfl H (by simp only [List.take_succ_cons, List.take_zero]; exact rfl) (by simp only [List.drop_succ_cons, List.drop_zero]; exact rfl)
                (fun x => by simp only [ov, Act.put, List.setIfInBounds_toArray, List.set_cons_succ, List.set_cons_zero, Nat.zero_add, Nat.reduceAdd]; exact rfl) ?_ ?_ ?_ ?_
              · refine ⟨?_, ?_, trivial⟩
                · intro w x hS; have H : Holds E s (pt b11 (.cells #[.int .i64 x6.kind, .string x6.key, .int .i64 x6.value, .slice A3e1 x6.list.length c3e1, .bool x6.has, .bool x6.isNil] 35 (0, 0)) :: pt b9 (.cells #[.func (.func 92) #[] #[], .func (.func 93) #[.pointer (some ⟨br10, 0, none⟩)] #[], .func (.func 92) #[] #[], .func (.func 94) #[.pointer (some ⟨br10, 0, none⟩)] #[], .func (.func 92) #[] #[]] 114 (0, 0)) :: pt b_p0 (.cells #[.map (some r_p0_lists), .map (some r_p0_regs)] 112 (0, 0)) :: mpO kcS kI s r_p0_lists a0.lists :: mpF kcS vcI r_p0_regs a0.regs :: pt br10 (.cells #[.map (some r_y6_c4_0), .map (some r_y6_c4_1)] 112 (0, 0)) :: mpO kcS kI s r_y6_c4_0 y6_c4_0 :: mpF kcS vcI r_y6_c4_1 y6_c4_1 :: L) w := hS; replace H := H.front 1 rfl; simp only [List.eraseIdx_cons_succ, List.eraseIdx_cons_zero] at H; replace H := H.front 1 rfl; simp only [List.eraseIdx_cons_succ, List.eraseIdx_cons_zero] at H; exact ⟨_, _, Sub.refl _, H⟩
                · intro w x hS; obtain ⟨e5, H⟩ := hS; replace H := H.front 1 rfl; simp only [List.eraseIdx_cons_succ, List.eraseIdx_cons_zero] at H; replace H := H.front 1 rfl; simp only [List.eraseIdx_cons_succ, List.eraseIdx_cons_zero] at H; exact ⟨_, _, Sub.refl _, H⟩
              · refine ⟨?_, ?_, ?_, ?_, ?_, ?_, trivial⟩
                · refine .inr ?_; intro s' R w' x Φ hs H hx hΦ; refine wantG rfl ?_; refine O_fld rfl Try.underlying35 rfl (Try.sizeOf3 _) rfl ?_; exact hΦ
                · refine .inr ?_; intro s' R w' x Φ hs H hx hΦ; have e0 : x 0 = .pointer (some ⟨b11, 0, none⟩) := hx 0 (by decide) (by decide); simp only [e0]; refine wantG rfl ?_; refine L_1 0 _ _ rfl (Try.isAgg3 _) rfl H rfl rfl ?_; exact hΦ
                · refine .inr ?_; intro s' R w' x Φ hs H hx hΦ; have e1 : x 1 = .int .i64 x6.kind := hx 1 (by decide) (by decide); simp only [e1]; refine wantG rfl ?_; refine O_ixA (k := 0) rfl Try.underlying114 (Try.sizeOf113 _) rfl rfl hg2 (by decide) ?_; exact hΦ
                · refine .inr ?_; intro s' R w' x Φ hs H hx hΦ; have e2 : x 2 = .pointer (some ⟨b9, 0, none⟩) := hx 2 (by decide) (by decide); simp only [e2]; refine wantG rfl ?_; refine L_1 1 _ _ rfl (Try.isAgg113 _) rfl H rfl rfl ?_; exact hΦ
                · refine .inr ?_; intro s' R w' x Φ hs H hx hΦ; refine wantG rfl ?_; refine G_pNi 0 _ _ rfl (Try.isAgg35 _) rfl H rfl (Try.sizeOf35 _) ?_; exact hΦ
                · exact .inl (by decide)
              · refine ⟨?_, trivial⟩
                · intro o ho; obtain rfl := Option.some.inj ho; intro w' x Φ hS hx hΦ
                  have H : Holds E s (pt b11 (.cells #[.int .i64 x6.kind, .string x6.key, .int .i64 x6.value, .slice A3e1 x6.list.length c3e1, .bool x6.has, .bool x6.isNil] 35 (0, 0)) :: pt b9 (.cells #[.func (.func 92) #[] #[], .func (.func 93) #[.pointer (some ⟨br10, 0, none⟩)] #[], .func (.func 92) #[] #[], .func (.func 94) #[.pointer (some ⟨br10, 0, none⟩)] #[], .func (.func 92) #[] #[]] 114 (0, 0)) :: pt b_p0 (.cells #[.map (some r_p0_lists), .map (some r_p0_regs)] 112 (0, 0)) :: mpO kcS kI s r_p0_lists a0.lists :: mpF kcS vcI r_p0_regs a0.regs :: pt br10 (.cells #[.map (some r_y6_c4_0), .map (some r_y6_c4_1)] 112 (0, 0)) :: mpO kcS kI s r_y6_c4_0 y6_c4_0 :: mpF kcS vcI r_y6_c4_1 y6_c4_1 :: L) w' := hS; clear hS
                  have e3 : x 3 = .func (.func 92) #[] #[] := hx 3 (by decide) (by decide)
                  have e4 : x 4 = .agg #[.int .i64 x6.kind, .string x6.key, .int .i64 x6.value, .slice A3e1 x6.list.length c3e1, .bool x6.has, .bool x6.isNil] := hx 4 (by decide) (by decide)
                  simp only [e3, e4]
                  refine wantG rfl ?_
                  refine O_callv1 (args := #[.agg #[.int .i64 x6.kind, .string x6.key, .int .i64 x6.value, .slice A3e1 x6.list.length c3e1, .bool x6.has, .bool x6.isNil]]) (v1 := .agg #[.int .i64 x6.kind, .string x6.key, .int .i64 x6.value, .slice A3e1 x6.list.length c3e1, .bool x6.has, .bool x6.isNil]) rfl Try.func92 rfl rfl rfl rfl (by simp only [Array.append_empty]) ?_; refine (model_State_does_1_w (a0 := x6) (h_p0_list := h3e1) (H := H)).mono ?_
                  clear H
                  rintro e w1 ⟨rfl, H⟩; refine ⟨_, rfl, ?_⟩
                  exact hΦ _ _ ⟨updV_same, H⟩
              · clear H
                intro w' x hS hx
                obtain ⟨e5, H⟩ := hS
                have e0 : x 0 = .pointer (some ⟨b11, 0, none⟩) := hx 0 (by decide) (by decide)
                have e1 : x 1 = .int .i64 x6.kind := hx 1 (by decide) (by decide)
                have e2 : x 2 = .pointer (some ⟨b9, 0, none⟩) := hx 2 (by decide) (by decide)
                have e3 : x 3 = .func (.func 92) #[] #[] := hx 3 (by decide) (by decide)
                have e4 : x 4 = .agg #[.int .i64 x6.kind, .string x6.key, .int .i64 x6.value, .slice A3e1 x6.list.length c3e1, .bool x6.has, .bool x6.isNil] := hx 4 (by decide) (by decide)
                simp only [e0, e1, e2, e3, e4, e5]
                clear hx
                refine list_end ?_
                refine block_norm ?_
                refine then_norm ?_
                refine wp_region_lit ?_
                apply seq_op (V := .int .i64 (IntKind.i64.wrap ((k6 : Int) + 1))) rfl
                · intro Φ hΦ; refine O_bin rfl rfl rfl eqg_int r_add ?_; exact hΦ
                (try simp only [Act.put, List.setIfInBounds_toArray, List.set_cons_succ, List.set_cons_zero])
                apply seq_op (V := .int .i64 (IntKind.i64.wrap ((k6 : Int) + 1))) rfl
                · intro Φ hΦ; refine O_mv rfl rfl ?_; exact hΦ
                (try simp only [Act.put, List.setIfInBounds_toArray, List.set_cons_succ, List.set_cons_zero])
                refine list_end ?_
                refine then_norm ?_
                replace H := H.drop
                refine ⟨⟨⟨rfl, rfl, rfl, rfl, rfl, rfl, rfl, rfl, rfl, rfl, rfl, rfl, rfl, rfl, rfl, rfl, rfl, rfl, rfl, rfl, rfl, rfl, rfl, rfl, rfl, rfl⟩, rfl⟩, ⟨k6 + 1, _, y6_c4_0, r_y6_c4_0, y6_c4_1, r_y6_c4_1, hd6'', wrap_succ hl6 hn6, hq6, H⟩, ?_⟩
                exact meas_succ hl6 hn6
            · replace hq6 := ifF hg2 hq6
              rcases Bool.eq_false_or_eq_true (x6.kind == 1) with hg3 | hg3
              · replace hq6 := ifT hg3 hq6
                obtain ⟨u2, gx2, hq6⟩ := bs hq6
                refine wp_draw_C (k := 6) (sz := 54) [5] [.pointer (some ⟨b11, 0, none⟩), .int .i64 x6.kind, .pointer (some ⟨b9, 1, none⟩), .func (.func 93) #[.pointer (some ⟨br10, 0, none⟩)] #[], .agg #[.int .i64 x6.kind, .string x6.key, .int .i64 x6.value, .slice A3e1 x6.list.length c3e1, .bool x6.has, .bool x6.isNil], undef] [pt b11 (.cells #[.int .i64 x6.kind, .string x6.key, .int .i64 x6.value, .slice A3e1 x6.list.length c3e1, .bool x6.has, .bool x6.isNil] 35 (0, 0)), pt b9 (.cells #[.func (.func 92) #[] #[], .func (.func 93) #[.pointer (some ⟨br10, 0, none⟩)] #[], .func (.func 92) #[] #[], .func (.func 94) #[.pointer (some ⟨br10, 0, none⟩)] #[], .func (.func 92) #[] #[]] 114 (0, 0))] [fun w x => ∃ (rr3o0_lists : Nat) (rr3o0_regs : Nat), x 5 = .tuple #[] ∧ Holds E s (pt br10 (.cells #[.map (some rr3o0_lists), .map (some rr3o0_regs)] 112 (0, 0)) :: mpO kcS kI s rr3o0_lists u2.lists :: mpF kcS vcI rr3o0_regs u2.regs :: pt b11 (.cells #[.int .i64 x6.kind, .string x6.key, .int .i64 x6.value, .slice A3e1 x6.list.length c3e1, .bool x6.has, .bool x6.isNil] 35 (0, 0)) :: pt b9 (.cells #[.func (.func 92) #[] #[], .func (.func 93) #[.pointer (some ⟨br10, 0, none⟩)] #[], .func (.func 92) #[] #[], .func (.func 94) #[.pointer (some ⟨br10, 0, none⟩)] #[], .func (.func 92) #[] #[]] 114 (0, 0)) :: pt b_p0 (.cells #[.map (some r_p0_lists), .map (some r_p0_regs)] 112 (0, 0)) :: mpO kcS kI s r_p0_lists a0.lists :: mpF kcS vcI r_p0_regs a0.regs :: L) w] mixed (by simp) rfl (by kernel_rfl) (by kernel_rfl) (by kernel_rfl) (by simp) rfl H (by simp only [List.take_succ_cons, List.take_zero]; exact rfl) (by simp only [List.drop_succ_cons, List.drop_zero]; exact rfl)
                  (fun x => by simp only [ov, Act.put, List.setIfInBounds_toArray, List.set_cons_succ, List.set_cons_zero, Nat.zero_add, Nat.reduceAdd]; exact rfl) ?_ ?_ ?_ ?_
                · refine ⟨?_, ?_, trivial⟩
                  · intro w x hS; have H : Holds E s (pt b11 (.cells #[.int .i64 x6.kind, .string x6.key, .int .i64 x6.value, .slice A3e1 x6.list.length c3e1, .bool x6.has, .bool x6.isNil] 35 (0, 0)) :: pt b9 (.cells #[.func (.func 92) #[] #[], .func (.func 93) #[.pointer (some ⟨br10, 0, none⟩)] #[], .func (.func 92) #[] #[], .func (.func 94) #[.pointer (some ⟨br10, 0, none⟩)] #[], .func (.func 92) #[] #[]] 114 (0, 0)) :: pt b_p0 (.cells #[.map (some r_p0_lists), .map (some r_p0_regs)] 112 (0, 0)) :: mpO kcS kI s r_p0_lists a0.lists :: mpF kcS vcI r_p0_regs a0.regs :: pt br10 (.cells #[.map (some r_y6_c4_0), .map (some r_y6_c4_1)] 112 (0, 0)) :: mpO kcS kI s r_y6_c4_0 y6_c4_0 :: mpF kcS vcI r_y6_c4_1 y6_c4_1 :: L) w := hS; replace H := H.front 1 rfl; simp only [List.eraseIdx_cons_succ, List.eraseIdx_cons_zero] at H; replace H := H.front 1 rfl; simp only [List.eraseIdx_cons_succ, List.eraseIdx_cons_zero] at H; exact ⟨_, _, Sub.refl _, H⟩
                  · intro w x hS; obtain ⟨rr3o0_lists, rr3o0_regs, e5, H⟩ := hS; replace H := H.front 4 rfl; simp only [List.eraseIdx_cons_succ, List.eraseIdx_cons_zero] at H; replace H := H.front 4 rfl; simp only [List.eraseIdx_cons_succ, List.eraseIdx_cons_zero] at H; exact ⟨_, _, Sub.refl _, H⟩
                · refine ⟨?_, ?_, ?_, ?_, ?_, ?_, trivial⟩
                  · refine .inr ?_; intro s' R w' x Φ hs H hx hΦ; refine wantG rfl ?_; refine O_fld rfl Try.underlying35 rfl (Try.sizeOf3 _) rfl ?_; exact hΦ
                  · refine .inr ?_; intro s' R w' x Φ hs H hx hΦ; have e0 : x 0 = .pointer (some ⟨b11, 0, none⟩) := hx 0 (by decide) (by decide); simp only [e0]; refine wantG rfl ?_; refine L_1 0 _ _ rfl (Try.isAgg3 _) rfl H rfl rfl ?_; exact hΦ
                  · refine .inr ?_; intro s' R w' x Φ hs H hx hΦ; have e1 : x 1 = .int .i64 x6.kind := hx 1 (by decide) (by decide); simp only [e1]; refine wantG rfl ?_; refine O_ixA (k := 1) rfl Try.underlying114 (Try.sizeOf113 _) rfl rfl hg3 (by decide) ?_; exact hΦ
                  · refine .inr ?_; intro s' R w' x Φ hs H hx hΦ; have e2 : x 2 = .pointer (some ⟨b9, 1, none⟩) := hx 2 (by decide) (by decide); simp only [e2]; refine wantG rfl ?_; refine L_1 1 _ _ rfl (Try.isAgg113 _) rfl H rfl rfl ?_; exact hΦ
                  · refine .inr ?_; intro s' R w' x Φ hs H hx hΦ; refine wantG rfl ?_; refine G_pNi 0 _ _ rfl (Try.isAgg35 _) rfl H rfl (Try.sizeOf35 _) ?_; exact hΦ
                  · exact .inl (by decide)
                · refine ⟨?_, trivial⟩
                  · intro o ho; obtain rfl := Option.some.inj ho; intro w' x Φ hS hx hΦ
                    have H : Holds E s (pt b11 (.cells #[.int .i64 x6.kind, .string x6.key, .int .i64 x6.value, .slice A3e1 x6.list.length c3e1, .bool x6.has, .bool x6.isNil] 35 (0, 0)) :: pt b9 (.cells #[.func (.func 92) #[] #[], .func (.func 93) #[.pointer (some ⟨br10, 0, none⟩)] #[], .func (.func 92) #[] #[], .func (.func 94) #[.pointer (some ⟨br10, 0, none⟩)] #[], .func (.func 92) #[] #[]] 114 (0, 0)) :: pt b_p0 (.cells #[.map (some r_p0_lists), .map (some r_p0_regs)] 112 (0, 0)) :: mpO kcS kI s r_p0_lists a0.lists :: mpF kcS vcI r_p0_regs a0.regs :: pt br10 (.cells #[.map (some r_y6_c4_0), .map (some r_y6_c4_1)] 112 (0, 0)) :: mpO kcS kI s r_y6_c4_0 y6_c4_0 :: mpF kcS vcI r_y6_c4_1 y6_c4_1 :: L) w' := hS; clear hS
                    have e3 : x 3 = .func (.func 93) #[.pointer (some ⟨br10, 0, none⟩)] #[] := hx 3 (by decide) (by decide)
                    have e4 : x 4 = .agg #[.int .i64 x6.kind, .string x6.key, .int .i64 x6.value, .slice A3e1 x6.list.length c3e1, .bool x6.has, .bool x6.isNil] := hx 4 (by decide) (by decide)
                    simp only [e3, e4]
                    refine wantG rfl ?_
                    replace H := H.front 7 rfl; simp only [List.eraseIdx_cons_succ, List.eraseIdx_cons_zero] at H
                    replace H := H.front 7 rfl; simp only [List.eraseIdx_cons_succ, List.eraseIdx_cons_zero] at H
                    replace H := H.front 7 rfl; simp only [List.eraseIdx_cons_succ, List.eraseIdx_cons_zero] at H
                    refine O_callb1 rfl Try.func93 rfl rfl rfl rfl ?_; refine (model_State_append_w (a0 := (⟨y6_c4_0, y6_c4_1⟩ : MSt)) (a1 := x6) (hz_p1_key := h1e1) (hr_p1_value := h2e1) (h_p1_list := h3e1) (hm := gx2) (H := H)).mono ?_
                    clear H
                    rintro e w1 ⟨rr3o0_lists, rr3o0_regs, rfl, H⟩; refine ⟨_, rfl, ?_⟩
                    exact hΦ _ _ ⟨rr3o0_lists, rr3o0_regs, updV_same, H⟩
                · clear H
                  intro w' x hS hx
                  obtain ⟨rr3o0_lists, rr3o0_regs, e5, H⟩ := hS
                  have e0 : x 0 = .pointer (some ⟨b11, 0, none⟩) := hx 0 (by decide) (by decide)
                  have e1 : x 1 = .int .i64 x6.kind := hx 1 (by decide) (by decide)
                  have e2 : x 2 = .pointer (some ⟨b9, 1, none⟩) := hx 2 (by decide) (by decide)
                  have e3 : x 3 = .func (.func 93) #[.pointer (some ⟨br10, 0, none⟩)] #[] := hx 3 (by decide) (by decide)
                  have e4 : x 4 = .agg #[.int .i64 x6.kind, .string x6.key, .int .i64 x6.value, .slice A3e1 x6.list.length c3e1, .bool x6.has, .bool x6.isNil] := hx 4 (by decide) (by decide)
                  simp only [e0, e1, e2, e3, e4, e5]
                  clear hx
                  refine list_end ?_
                  refine block_norm ?_
                  refine then_norm ?_
                  refine wp_region_lit ?_
                  apply seq_op (V := .int .i64 (IntKind.i64.wrap ((k6 : Int) + 1))) rfl
                  · intro Φ hΦ; refine O_bin rfl rfl rfl eqg_int r_add ?_; exact hΦ
                  (try simp only [Act.put, List.setIfInBounds_toArray, List.set_cons_succ, List.set_cons_zero])
                  apply seq_op (V := .int .i64 (IntKind.i64.wrap ((k6 : Int) + 1))) rfl
                  · intro Φ hΦ; refine O_mv rfl rfl ?_; exact hΦ
                  (try simp only [Act.put, List.setIfInBounds_toArray, List.set_cons_succ, List.set_cons_zero])
                  refine list_end ?_
                  refine then_norm ?_
                  replace H := H.front 2 rfl; simp only [List.eraseIdx_cons_succ, List.eraseIdx_cons_zero] at H
                  replace H := H.front 2 rfl; simp only [List.eraseIdx_cons_succ, List.eraseIdx_cons_zero] at H
                  replace H := H.front 2 rfl; simp only [List.eraseIdx_cons_succ, List.eraseIdx_cons_zero] at H
                  replace H := H.front 7 rfl; simp only [List.eraseIdx_cons_succ, List.eraseIdx_cons_zero] at H
                  replace H := H.front 7 rfl; simp only [List.eraseIdx_cons_succ, List.eraseIdx_cons_zero] at H
                  replace H := H.front 7 rfl; simp only [List.eraseIdx_cons_succ, List.eraseIdx_cons_zero] at H
                  replace H := H.front 7 rfl; simp only [List.eraseIdx_cons_succ, List.eraseIdx_cons_zero] at H
                  replace H := H.dropAt 7 rfl; simp only [List.eraseIdx_cons_succ, List.eraseIdx_cons_zero] at H
                  refine ⟨⟨⟨rfl, rfl, rfl, rfl, rfl, rfl, rfl, rfl, rfl, rfl, rfl, rfl, rfl, rfl, rfl, rfl, rfl, rfl, rfl, rfl, rfl, rfl, rfl, rfl, rfl, rfl⟩, rfl⟩, ⟨k6 + 1, _, u2.lists, rr3o0_lists, u2.regs, rr3o0_regs, hd6'', wrap_succ hl6 hn6, hq6, H⟩, ?_⟩
                  exact meas_succ hl6 hn6
              · replace hq6 := ifF hg3 hq6
                rcases Bool.eq_false_or_eq_true (x6.kind == 2) with hg4 | hg4
                · replace hq6 := ifT hg4 hq6
                  refine wp_draw_C (k := 6) (sz := 54) [5] [.pointer (some ⟨b11, 0, none⟩), .int .i64 x6.kind, .pointer (some ⟨b9, 2, none⟩), .func (.func 92) #[] #[], .agg #[.int .i64 x6.kind, .string x6.key, .int .i64 x6.value, .slice A3e1 x6.list.length c3e1, .bool x6.has, .bool x6.isNil], undef] [pt b11 (.cells #[.int .i64 x6.kind, .string x6.key, .int .i64 x6.value, .slice A3e1 x6.list.length c3e1, .bool x6.has, .bool x6.isNil] 35 (0, 0)), pt b9 (.cells #[.func (.func 92) #[] #[], .func (.func 93) #[.pointer (some ⟨br10, 0, none⟩)] #[], .func (.func 92) #[] #[], .func (.func 94) #[.pointer (some ⟨br10, 0, none⟩)] #[], .func (.func 92) #[] #[]] 114 (0, 0))] [fun w x => x 5 = .tuple #[] ∧ Holds E s (pt b11 (.cells #[.int .i64 x6.kind, .string x6.key, .int .i64 x6.value, .slice A3e1 x6.list.length c3e1, .bool x6.has, .bool x6.isNil] 35 (0, 0)) :: pt b9 (.cells #[.func (.func 92) #[] #[], .func (.func 93) #[.pointer (some ⟨br10, 0, none⟩)] #[], .func (.func 92) #[] #[], .func (.func 94) #[.pointer (some ⟨br10, 0, none⟩)] #[], .func (.func 92) #[] #[]] 114 (0, 0)) :: pt b_p0 (.cells #[.map (some r_p0_lists), .map (some r_p0_regs)] 112 (0, 0)) :: mpO kcS kI s r_p0_lists a0.lists :: mpF kcS vcI r_p0_regs a0.regs :: pt br10 (.cells #[.map (some r_y6_c4_0), .map (some r_y6_c4_1)] 112 (0, 0)) :: mpO kcS kI s r_y6_c4_0 y6_c4_0 :: mpF kcS vcI r_y6_c4_1 y6_c4_1 :: L) w] mixed (by simp) rfl (by kernel_rfl) (by kernel_rfl) (by kernel_rfl) (by simp) rfl H (by simp only [List.take_succ_cons, List.take_zero]; exact rfl) (by simp only [List.drop_succ_cons, List.drop_zero]; exact rfl)
                    (fun x => by simp only [ov, Act.put, List.setIfInBounds_toArray, List.set_cons_succ, List.set_cons_zero, Nat.zero_add, Nat.reduceAdd]; exact rfl) ?_ ?_ ?_ ?_
                  · refine ⟨?_, ?_, trivial⟩
                    · intro w x hS; have H : Holds E s (pt b11 (.cells #[.int .i64 x6.kind, .string x6.key, .int .i64 x6.value, .slice A3e1 x6.list.length c3e1, .bool x6.has, .bool x6.isNil] 35 (0, 0)) :: pt b9 (.cells #[.func (.func 92) #[] #[], .func (.func 93) #[.pointer (some ⟨br10, 0, none⟩)] #[], .func (.func 92) #[] #[], .func (.func 94) #[.pointer (some ⟨br10, 0, none⟩)] #[], .func (.func 92) #[] #[]] 114 (0, 0)) :: pt b_p0 (.cells #[.map (some r_p0_lists), .map (some r_p0_regs)] 112 (0, 0)) :: mpO kcS kI s r_p0_lists a0.lists :: mpF kcS vcI r_p0_regs a0.regs :: pt br10 (.cells #[.map (some r_y6_c4_0), .map (some r_y6_c4_1)] 112 (0, 0)) :: mpO kcS kI s r_y6_c4_0 y6_c4_0 :: mpF kcS vcI r_y6_c4_1 y6_c4_1 :: L) w := hS; replace H := H.front 1 rfl; simp only [List.eraseIdx_cons_succ, List.eraseIdx_cons_zero] at H; replace H := H.front 1 rfl; simp only [List.eraseIdx_cons_succ, List.eraseIdx_cons_zero] at H; exact ⟨_, _, Sub.refl _, H⟩
                    · intro w x hS; obtain ⟨e5, H⟩ := hS; replace H := H.front 1 rfl; simp only [List.eraseIdx_cons_succ, List.eraseIdx_cons_zero] at H; replace H := H.front 1 rfl; simp only [List.eraseIdx_cons_succ, List.eraseIdx_cons_zero] at H; exact ⟨_, _, Sub.refl _, H⟩
                  · refine ⟨?_, ?_, ?_, ?_, ?_, ?_, trivial⟩
                    · refine .inr ?_; intro s' R w' x Φ hs H hx hΦ; refine wantG rfl ?_; refine O_fld rfl Try.underlying35 rfl (Try.sizeOf3 _) rfl ?_; exact hΦ
                    · refine .inr ?_; intro s' R w' x Φ hs H hx hΦ; have e0 : x 0 = .pointer (some ⟨b11, 0, none⟩) := hx 0 (by decide) (by decide); simp only [e0]; refine wantG rfl ?_; refine L_1 0 _ _ rfl (Try.isAgg3 _) rfl H rfl rfl ?_; exact hΦ
                    · refine .inr ?_; intro s' R w' x Φ hs H hx hΦ; have e1 : x 1 = .int .i64 x6.kind := hx 1 (by decide) (by decide); simp only [e1]; refine wantG rfl ?_; refine O_ixA (k := 2) rfl Try.underlying114 (Try.sizeOf113 _) rfl rfl hg4 (by decide) ?_; exact hΦ
                    · refine .inr ?_; intro s' R w' x Φ hs H hx hΦ; have e2 : x 2 = .pointer (some ⟨b9, 2, none⟩) := hx 2 (by decide) (by decide); simp only [e2]; refine wantG rfl ?_; refine L_1 1 _ _ rfl (Try.isAgg113 _) rfl H rfl rfl ?_; exact hΦ
                    · refine .inr ?_; intro s' R w' x Φ hs H hx hΦ; refine wantG rfl ?_; refine G_pNi 0 _ _ rfl (Try.isAgg35 _) rfl H rfl (Try.sizeOf35 _) ?_; exact hΦ
                    · exact .inl (by decide)
                  · refine ⟨?_, trivial⟩
                    · intro o ho; obtain rfl := Option.some.inj ho; intro w' x Φ hS hx hΦ
                      have H : Holds E s (pt b11 (.cells #[.int .i64 x6.kind, .string x6.key, .int .i64 x6.value, .slice A3e1 x6.list.length c3e1, .bool x6.has, .bool x6.isNil] 35 (0, 0)) :: pt b9 (.cells #[.func (.func 92) #[] #[], .func (.func 93) #[.pointer (some ⟨br10, 0, none⟩)] #[], .func (.func 92) #[] #[], .func (.func 94) #[.pointer (some ⟨br10, 0, none⟩)] #[], .func (.func 92) #[] #[]] 114 (0, 0)) :: pt b_p0 (.cells #[.map (some r_p0_lists), .map (some r_p0_regs)] 112 (0, 0)) :: mpO kcS kI s r_p0_lists a0.lists :: mpF kcS vcI r_p0_regs a0.regs :: pt br10 (.cells #[.map (some r_y6_c4_0), .map (some r_y6_c4_1)] 112 (0, 0)) :: mpO kcS kI s r_y6_c4_0 y6_c4_0 :: mpF kcS vcI r_y6_c4_1 y6_c4_1 :: L) w' := hS; clear hS
                      have e3 : x 3 = .func (.func 92) #[] #[] := hx 3 (by decide) (by decide)
                      have e4 : x 4 = .agg #[.int .i64 x6.kind, .string x6.key, .int .i64 x6.value, .slice A3e1 x6.list.length c3e1, .bool x6.has, .bool x6.isNil] := hx 4 (by decide) (by decide)
                      simp only [e3, e4]
                      refine wantG rfl ?_
                      refine O_callv1 (args := #[.agg #[.int .i64 x6.kind, .string x6.key, .int .i64 x6.value, .slice A3e1 x6.list.length c3e1, .bool x6.has, .bool x6.isNil]]) (v1 := .agg #[.int .i64 x6.kind, .string x6.key, .int .i64 x6.value, .slice A3e1 x6.list.length c3e1, .bool x6.has, .bool x6.isNil]) rfl Try.func92 rfl rfl rfl rfl (by simp only [Array.append_empty]) ?_; refine (model_State_does_1_w (a0 := x6) (h_p0_list := h3e1) (H := H)).mono ?_
                      clear H
                      rintro e w1 ⟨rfl, H⟩; refine ⟨_, rfl, ?_⟩
                      exact hΦ _ _ ⟨updV_same, H⟩
                  · clear H
                    intro w' x hS hx
                    obtain ⟨e5, H⟩ := hS
                    have e0 : x 0 = .pointer (some ⟨b11, 0, none⟩) := hx 0 (by decide) (by decide)
                    have e1 : x 1 = .int .i64 x6.kind := hx 1 (by decide) (by decide)
                    have e2 : x 2 = .pointer (some ⟨b9, 2, none⟩) := hx 2 (by decide) (by decide)
                    have e3 : x 3 = .func (.func 92) #[] #[] := hx 3 (by decide) (by decide)
                    have e4 : x 4 = .agg #[.int .i64 x6.kind, .string x6.key, .int .i64 x6.value, .slice A3e1 x6.list.length c3e1, .bool x6.has, .bool x6.isNil] := hx 4 (by decide) (by decide)
                    simp only [e0, e1, e2, e3, e4, e5]
                    clear hx
                    refine list_end ?_
                    refine block_norm ?_
                    refine then_norm ?_
                    refine wp_region_lit ?_
                    apply seq_op (V := .int .i64 (IntKind.i64.wrap ((k6 : Int) + 1))) rfl
                    · intro Φ hΦ; refine O_bin rfl rfl rfl eqg_int r_add ?_; exact hΦ
                    (try simp only [Act.put, List.setIfInBounds_toArray, List.set_cons_succ, List.set_cons_zero])
                    apply seq_op (V := .int .i64 (IntKind.i64.wrap ((k6 : Int) + 1))) rfl
                    · intro Φ hΦ; refine O_mv rfl rfl ?_; exact hΦ
                    (try simp only [Act.put, List.setIfInBounds_toArray, List.set_cons_succ, List.set_cons_zero])
                    refine list_end ?_
                    refine then_norm ?_
                    replace H := H.drop
                    refine ⟨⟨⟨rfl, rfl, rfl, rfl, rfl, rfl, rfl, rfl, rfl, rfl, rfl, rfl, rfl, rfl, rfl, rfl, rfl, rfl, rfl, rfl, rfl, rfl, rfl, rfl, rfl, rfl⟩, rfl⟩, ⟨k6 + 1, _, y6_c4_0, r_y6_c4_0, y6_c4_1, r_y6_c4_1, hd6'', wrap_succ hl6 hn6, hq6, H⟩, ?_⟩
                    exact meas_succ hl6 hn6
                · replace hq6 := ifF hg4 hq6
                  rcases Bool.eq_false_or_eq_true (x6.kind == 3) with hg5 | hg5
                  · replace hq6 := ifT hg5 hq6
                    refine wp_draw_C (k := 6) (sz := 54) [5] [.pointer (some ⟨b11, 0, none⟩), .int .i64 x6.kind, .pointer (some ⟨b9, 3, none⟩), .func (.func 94) #[.pointer (some ⟨br10, 0, none⟩)] #[], .agg #[.int .i64 x6.kind, .string x6.key, .int .i64 x6.value, .slice A3e1 x6.list.length c3e1, .bool x6.has, .bool x6.isNil], undef] [pt b11 (.cells #[.int .i64 x6.kind, .string x6.key, .int .i64 x6.value, .slice A3e1 x6.list.length c3e1, .bool x6.has, .bool x6.isNil] 35 (0, 0)), pt b9 (.cells #[.func (.func 92) #[] #[], .func (.func 93) #[.pointer (some ⟨br10, 0, none⟩)] #[], .func (.func 92) #[] #[], .func (.func 94) #[.pointer (some ⟨br10, 0, none⟩)] #[], .func (.func 92) #[] #[]] 114 (0, 0))] [fun w x => ∃ (rr3o0_lists : Nat) (rr3o0_regs : Nat), x 5 = .tuple #[] ∧ Holds E s (pt br10 (.cells #[.map (some rr3o0_lists), .map (some rr3o0_regs)] 112 (0, 0)) :: mpO kcS kI s rr3o0_lists ((model_State_write_f (⟨y6_c4_0, y6_c4_1⟩ : MSt) x6).lists) :: mpF kcS vcI rr3o0_regs ((model_State_write_f (⟨y6_c4_0, y6_c4_1⟩ : MSt) x6).regs) :: pt b11 (.cells #[.int .i64 x6.kind, .string x6.key, .int .i64 x6.value, .slice A3e1 x6.list.length c3e1, .bool x6.has, .bool x6.isNil] 35 (0, 0)) :: pt b9 (.cells #[.func (.func 92) #[] #[], .func (.func 93) #[.pointer (some ⟨br10, 0, none⟩)] #[], .func (.func 92) #[] #[], .func (.func 94) #[.pointer (some ⟨br10, 0, none⟩)] #[], .func (.func 92) #[] #[]] 114 (0, 0)) :: pt b_p0 (.cells #[.map (some r_p0_lists), .map (some r_p0_regs)] 112 (0, 0)) :: mpO kcS kI s r_p0_lists a0.lists :: mpF kcS vcI r_p0_regs a0.regs :: L) w] mixed (by simp) rfl (by kernel_rfl) (by kernel_rfl) (by kernel_rfl) (by simp) rfl H (by simp only [List.take_succ_cons, List.take_zero]; exact rfl) (by simp only [List.drop_succ_cons, List.drop_zero]; exact rfl)
                      (fun x => by simp only [ov, Act.put, List.setIfInBounds_toArray, List.set_cons_succ, List.set_cons_zero, Nat.zero_add, Nat.reduceAdd]; exact rfl) ?_ ?_ ?_ ?_
                    · refine ⟨?_, ?_, trivial⟩
                      · intro w x hS; have H : Holds E s (pt b11 (.cells #[.int .i64 x6.kind, .string x6.key, .int .i64 x6.value, .slice A3e1 x6.list.length c3e1, .bool x6.has, .bool x6.isNil] 35 (0, 0)) :: pt b9 (.cells #[.func (.func 92) #[] #[], .func (.func 93) #[.pointer (some ⟨br10, 0, none⟩)] #[], .func (.func 92) #[] #[], .func (.func 94) #[.pointer (some ⟨br10, 0, none⟩)] #[], .func (.func 92) #[] #[]] 114 (0, 0)) :: pt b_p0 (.cells #[.map (some r_p0_lists), .map (some r_p0_regs)] 112 (0, 0)) :: mpO kcS kI s r_p0_lists a0.lists :: mpF kcS vcI r_p0_regs a0.regs :: pt br10 (.cells #[.map (some r_y6_c4_0), .map (some r_y6_c4_1)] 112 (0, 0)) :: mpO kcS kI s r_y6_c4_0 y6_c4_0 :: mpF kcS vcI r_y6_c4_1 y6_c4_1 :: L) w := hS; replace H := H.front 1 rfl; simp only [List.eraseIdx_cons_succ, List.eraseIdx_cons_zero] at H; replace H := H.front 1 rfl; simp only [List.eraseIdx_cons_succ, List.eraseIdx_cons_zero] at H; exact ⟨_, _, Sub.refl _, H⟩
                      · intro w x hS; obtain ⟨rr3o0_lists, rr3o0_regs, e5, H⟩ := hS; replace H := H.front 4 rfl; simp only [List.eraseIdx_cons_succ, List.eraseIdx_cons_zero] at H; replace H := H.front 4 rfl; simp only [List.eraseIdx_cons_succ, List.eraseIdx_cons_zero] at H; exact ⟨_, _, Sub.refl _, H⟩
                    · refine ⟨?_, ?_, ?_, ?_, ?_, ?_, trivial⟩
                      · refine .inr ?_; intro s' R w' x Φ hs H hx hΦ; refine wantG rfl ?_; refine O_fld rfl Try.underlying35 rfl (Try.sizeOf3 _) rfl ?_; exact hΦ
                      · refine .inr ?_; intro s' R w' x Φ hs H hx hΦ; have e0 : x 0 = .pointer (some ⟨b11, 0, none⟩) := hx 0 (by decide) (by decide); simp only [e0]; refine wantG rfl ?_; refine L_1 0 _ _ rfl (Try.isAgg3 _) rfl H rfl rfl ?_; exact hΦ
                      · refine .inr ?_; intro s' R w' x Φ hs H hx hΦ; have e1 : x 1 = .int .i64 x6.kind := hx 1 (by decide) (by decide); simp only [e1]; refine wantG rfl ?_; refine O_ixA (k := 3) rfl Try.underlying114 (Try.sizeOf113 _) rfl rfl hg5 (by decide) ?_; exact hΦ
                      · refine .inr ?_; intro s' R w' x Φ hs H hx hΦ; have e2 : x 2 = .pointer (some ⟨b9, 3, none⟩) := hx 2 (by decide) (by decide); simp only [e2]; refine wantG rfl ?_; refine L_1 1 _ _ rfl (Try.isAgg113 _) rfl H rfl rfl ?_; exact hΦ
                      · refine .inr ?_; intro s' R w' x Φ hs H hx hΦ; refine wantG rfl ?_; refine G_pNi 0 _ _ rfl (Try.isAgg35 _) rfl H rfl (Try.sizeOf35 _) ?_; exact hΦ
                      · exact .inl (by decide)
                    · refine ⟨?_, trivial⟩
                      · intro o ho; obtain rfl := Option.some.inj ho; intro w' x Φ hS hx hΦ
                        have H : Holds E s (pt b11 (.cells #[.int .i64 x6.kind, .string x6.key, .int .i64 x6.value, .slice A3e1 x6.list.length c3e1, .bool x6.has, .bool x6.isNil] 35 (0, 0)) :: pt b9 (.cells #[.func (.func 92) #[] #[], .func (.func 93) #[.pointer (some ⟨br10, 0, none⟩)] #[], .func (.func 92) #[] #[], .func (.func 94) #[.pointer (some ⟨br10, 0, none⟩)] #[], .func (.func 92) #[] #[]] 114 (0, 0)) :: pt b_p0 (.cells #[.map (some r_p0_lists), .map (some r_p0_regs)] 112 (0, 0)) :: mpO kcS kI s r_p0_lists a0.lists :: mpF kcS vcI r_p0_regs a0.regs :: pt br10 (.cells #[.map (some r_y6_c4_0), .map (some r_y6_c4_1)] 112 (0, 0)) :: mpO kcS kI s r_y6_c4_0 y6_c4_0 :: mpF kcS vcI r_y6_c4_1 y6_c4_1 :: L) w' := hS; clear hS
                        have e3 : x 3 = .func (.func 94) #[.pointer (some ⟨br10, 0, none⟩)] #[] := hx 3 (by decide) (by decide)
                        have e4 : x 4 = .agg #[.int .i64 x6.kind, .string x6.key, .int .i64 x6.value, .slice A3e1 x6.list.length c3e1, .bool x6.has, .bool x6.isNil] := hx 4 (by decide) (by decide)
                        simp only [e3, e4]
                        refine wantG rfl ?_
                        replace H := H.front 7 rfl; simp only [List.eraseIdx_cons_succ, List.eraseIdx_cons_zero] at H
                        replace H := H.front 7 rfl; simp only [List.eraseIdx_cons_succ, List.eraseIdx_cons_zero] at H
                        replace H := H.front 7 rfl; simp only [List.eraseIdx_cons_succ, List.eraseIdx_cons_zero] at H
                        refine O_callb1 rfl Try.func94 rfl rfl rfl rfl ?_; refine (model_State_write_w (a0 := (⟨y6_c4_0, y6_c4_1⟩ : MSt)) (a1 := x6) (hz_p1_key := h1e1) (h_p1_list := h3e1) (H := H)).mono ?_
                        clear H
                        rintro e w1 ⟨rr3o0_lists, rr3o0_regs, rfl, H⟩; refine ⟨_, rfl, ?_⟩
                        exact hΦ _ _ ⟨rr3o0_lists, rr3o0_regs, updV_same, H⟩
                    · clear H
                      intro w' x hS hx
                      obtain ⟨rr3o0_lists, rr3o0_regs, e5, H⟩ := hS
                      have e0 : x 0 = .pointer (some ⟨b11, 0, none⟩) := hx 0 (by decide) (by decide)
                      have e1 : x 1 = .int .i64 x6.kind := hx 1 (by decide) (by decide)
                      have e2 : x 2 = .pointer (some ⟨b9, 3, none⟩) := hx 2 (by decide) (by decide)
                      have e3 : x 3 = .func (.func 94) #[.pointer (some ⟨br10, 0, none⟩)] #[] := hx 3 (by decide) (by decide)
                      have e4 : x 4 = .agg #[.int .i64 x6.kind, .string x6.key, .int .i64 x6.value, .slice A3e1 x6.list.length c3e1, .bool x6.has, .bool x6.isNil] := hx 4 (by decide) (by decide)
                      simp only [e0, e1, e2, e3, e4, e5]
                      clear hx
                      refine list_end ?_
                      refine block_norm ?_
                      refine then_norm ?_
                      refine wp_region_lit ?_
                      apply seq_op (V := .int .i64 (IntKind.i64.wrap ((k6 : Int) + 1))) rfl
                      · intro Φ hΦ; refine O_bin rfl rfl rfl eqg_int r_add ?_; exact hΦ
                      (try simp only [Act.put, List.setIfInBounds_toArray, List.set_cons_succ, List.set_cons_zero])
                      apply seq_op (V := .int .i64 (IntKind.i64.wrap ((k6 : Int) + 1))) rfl
                      · intro Φ hΦ; refine O_mv rfl rfl ?_; exact hΦ
                      (try simp only [Act.put, List.setIfInBounds_toArray, List.set_cons_succ, List.set_cons_zero])
                      refine list_end ?_
                      refine then_norm ?_
                      replace H := H.front 2 rfl; simp only [List.eraseIdx_cons_succ, List.eraseIdx_cons_zero] at H
                      replace H := H.front 2 rfl; simp only [List.eraseIdx_cons_succ, List.eraseIdx_cons_zero] at H
                      replace H := H.front 2 rfl; simp only [List.eraseIdx_cons_succ, List.eraseIdx_cons_zero] at H
                      replace H := H.front 7 rfl; simp only [List.eraseIdx_cons_succ, List.eraseIdx_cons_zero] at H
                      replace H := H.front 7 rfl; simp only [List.eraseIdx_cons_succ, List.eraseIdx_cons_zero] at H
                      replace H := H.front 7 rfl; simp only [List.eraseIdx_cons_succ, List.eraseIdx_cons_zero] at H
                      replace H := H.front 7 rfl; simp only [List.eraseIdx_cons_succ, List.eraseIdx_cons_zero] at H
                      replace H := H.dropAt 7 rfl; simp only [List.eraseIdx_cons_succ, List.eraseIdx_cons_zero] at H
                      refine ⟨⟨⟨rfl, rfl, rfl, rfl, rfl, rfl, rfl, rfl, rfl, rfl, rfl, rfl, rfl, rfl, rfl, rfl, rfl, rfl, rfl, rfl, rfl, rfl, rfl, rfl, rfl, rfl⟩, rfl⟩, ⟨k6 + 1, _, ((model_State_write_f (⟨y6_c4_0, y6_c4_1⟩ : MSt) x6).lists), rr3o0_lists, ((model_State_write_f (⟨y6_c4_0, y6_c4_1⟩ : MSt) x6).regs), rr3o0_regs, hd6'', wrap_succ hl6 hn6, hq6, H⟩, ?_⟩
                      exact meas_succ hl6 hn6
                  · replace hq6 := ifF hg5 hq6
                    rcases Bool.eq_false_or_eq_true (x6.kind == 4) with hg6 | hg6
                    · replace hq6 := ifT hg6 hq6
                      refine wp_draw_C (k := 6) (sz := 54) [5] [.pointer (some ⟨b11, 0, none⟩), .int .i64 x6.kind, .pointer (some ⟨b9, 4, none⟩), .func (.func 92) #[] #[], .agg #[.int .i64 x6.kind, .string x6.key, .int .i64 x6.value, .slice A3e1 x6.list.length c3e1, .bool x6.has, .bool x6.isNil], undef] [pt b11 (.cells #[.int .i64 x6.kind, .string x6.key, .int .i64 x6.value, .slice A3e1 x6.list.length c3e1, .bool x6.has, .bool x6.isNil] 35 (0, 0)), pt b9 (.cells #[.func (.func 92) #[] #[], .func (.func 93) #[.pointer (some ⟨br10, 0, none⟩)] #[], .func (.func 92) #[] #[], .func (.func 94) #[.pointer (some ⟨br10, 0, none⟩)] #[], .func (.func 92) #[] #[]] 114 (0, 0))] [fun w x => x 5 = .tuple #[] ∧ Holds E s (pt b11 (.cells #[.int .i64 x6.kind, .string x6.key, .int .i64 x6.value, .slice A3e1 x6.list.length c3e1, .bool x6.has, .bool x6.isNil] 35 (0, 0)) :: pt b9 (.cells #[.func (.func 92) #[] #[], .func (.func 93) #[.pointer (some ⟨br10, 0, none⟩)] #[], .func (.func 92) #[] #[], .func (.func 94) #[.pointer (some ⟨br10, 0, none⟩)] #[], .func (.func 92) #[] #[]] 114 (0, 0)) :: pt b_p0 (.cells #[.map (some r_p0_lists), .map (some r_p0_regs)] 112 (0, 0)) :: mpO kcS kI s r_p0_lists a0.lists :: mpF kcS vcI r_p0_regs a0.regs :: pt br10 (.cells #[.map (some r_y6_c4_0), .map (some r_y6_c4_1)] 112 (0, 0)) :: mpO kcS kI s r_y6_c4_0 y6_c4_0 :: mpF kcS vcI r_y6_c4_1 y6_c4_1 :: L) w] mixed (by simp) rfl (by kernel_rfl) (by kernel_rfl) (by kernel_rfl) (by simp) rfl H (by simp only [List.take_succ_cons, List.take_zero]; exact rfl) (by simp only [List.drop_succ_cons, List.drop_zero]; exact rfl)
                        (fun x => by simp only [ov, Act.put, List.setIfInBounds_toArray, List.set_cons_succ, List.set_cons_zero, Nat.zero_add, Nat.reduceAdd]; exact rfl) ?_ ?_ ?_ ?_
                      · refine ⟨?_, ?_, trivial⟩
                        · intro w x hS; have H : Holds E s (pt b11 (.cells #[.int .i64 x6.kind, .string x6.key, .int .i64 x6.value, .slice A3e1 x6.list.length c3e1, .bool x6.has, .bool x6.isNil] 35 (0, 0)) :: pt b9 (.cells #[.func (.func 92) #[] #[], .func (.func 93) #[.pointer (some ⟨br10, 0, none⟩)] #[], .func (.func 92) #[] #[], .func (.func 94) #[.pointer (some ⟨br10, 0, none⟩)] #[], .func (.func 92) #[] #[]] 114 (0, 0)) :: pt b_p0 (.cells #[.map (some r_p0_lists), .map (some r_p0_regs)] 112 (0, 0)) :: mpO kcS kI s r_p0_lists a0.lists :: mpF kcS vcI r_p0_regs a0.regs :: pt br10 (.cells #[.map (some r_y6_c4_0), .map (some r_y6_c4_1)] 112 (0, 0)) :: mpO kcS kI s r_y6_c4_0 y6_c4_0 :: mpF kcS vcI r_y6_c4_1 y6_c4_1 :: L) w := hS; replace H := H.front 1 rfl; simp only [List.eraseIdx_cons_succ, List.eraseIdx_cons_zero] at H; replace H := H.front 1 rfl; simp only [List.eraseIdx_cons_succ, List.eraseIdx_cons_zero] at H; exact ⟨_, _, Sub.refl _, H⟩
                        · intro w x hS; obtain ⟨e5, H⟩ := hS; replace H := H.front 1 rfl; simp only [List.eraseIdx_cons_succ, List.eraseIdx_cons_zero] at H; replace H := H.front 1 rfl; simp only [List.eraseIdx_cons_succ, List.eraseIdx_cons_zero] at H; exact ⟨_, _, Sub.refl _, H⟩
                      · refine ⟨?_, ?_, ?_, ?_, ?_, ?_, trivial⟩
                        · refine .inr ?_; intro s' R w' x Φ hs H hx hΦ; refine wantG rfl ?_; refine O_fld rfl Try.underlying35 rfl (Try.sizeOf3 _) rfl ?_; exact hΦ
                        · refine .inr ?_; intro s' R w' x Φ hs H hx hΦ; have e0 : x 0 = .pointer (some ⟨b11, 0, none⟩) := hx 0 (by decide) (by decide); simp only [e0]; refine wantG rfl ?_; refine L_1 0 _ _ rfl (Try.isAgg3 _) rfl H rfl rfl ?_; exact hΦ
                        · refine .inr ?_; intro s' R w' x Φ hs H hx hΦ; have e1 : x 1 = .int .i64 x6.kind := hx 1 (by decide) (by decide); simp only [e1]; refine wantG rfl ?_; refine O_ixA (k := 4) rfl Try.underlying114 (Try.sizeOf113 _) rfl rfl hg6 (by decide) ?_; exact hΦ
                        · refine .inr ?_; intro s' R w' x Φ hs H hx hΦ; have e2 : x 2 = .pointer (some ⟨b9, 4, none⟩) := hx 2 (by decide) (by decide); simp only [e2]; refine wantG rfl ?_; refine L_1 1 _ _ rfl (Try.isAgg113 _) rfl H rfl rfl ?_; exact hΦ
                        · refine .inr ?_; intro s' R w' x Φ hs H hx hΦ; refine wantG rfl ?_; refine G_pNi 0 _ _ rfl (Try.isAgg35 _) rfl H rfl (Try.sizeOf35 _) ?_; exact hΦ
                        · exact .inl (by decide)
                      · refine ⟨?_, trivial⟩
                        · intro o ho; obtain rfl := Option.some.inj ho; intro w' x Φ hS hx hΦ
                          have H : Holds E s (pt b11 (.cells #[.int .i64 x6.kind, .string x6.key, .int .i64 x6.value, .slice A3e1 x6.list.length c3e1, .bool x6.has, .bool x6.isNil] 35 (0, 0)) :: pt b9 (.cells #[.func (.func 92) #[] #[], .func (.func 93) #[.pointer (some ⟨br10, 0, none⟩)] #[], .func (.func 92) #[] #[], .func (.func 94) #[.pointer (some ⟨br10, 0, none⟩)] #[], .func (.func 92) #[] #[]] 114 (0, 0)) :: pt b_p0 (.cells #[.map (some r_p0_lists), .map (some r_p0_regs)] 112 (0, 0)) :: mpO kcS kI s r_p0_lists a0.lists :: mpF kcS vcI r_p0_regs a0.regs :: pt br10 (.cells #[.map (some r_y6_c4_0), .map (some r_y6_c4_1)] 112 (0, 0)) :: mpO kcS kI s r_y6_c4_0 y6_c4_0 :: mpF kcS vcI r_y6_c4_1 y6_c4_1 :: L) w' := hS; clear hS
                          have e3 : x 3 = .func (.func 92) #[] #[] := hx 3 (by decide) (by decide)
                          have e4 : x 4 = .agg #[.int .i64 x6.kind, .string x6.key, .int .i64 x6.value, .slice A3e1 x6.list.length c3e1, .bool x6.has, .bool x6.isNil] := hx 4 (by decide) (by decide)
                          simp only [e3, e4]
                          refine wantG rfl ?_
                          refine O_callv1 (args := #[.agg #[.int .i64 x6.kind, .string x6.key, .int .i64 x6.value, .slice A3e1 x6.list.length c3e1, .bool x6.has, .bool x6.isNil]]) (v1 := .agg #[.int .i64 x6.kind, .string x6.key, .int .i64 x6.value, .slice A3e1 x6.list.length c3e1, .bool x6.has, .bool x6.isNil]) rfl Try.func92 rfl rfl rfl rfl (by simp only [Array.append_empty]) ?_; refine (model_State_does_1_w (a0 := x6) (h_p0_list := h3e1) (H := H)).mono ?_
                          clear H
                          rintro e w1 ⟨rfl, H⟩; refine ⟨_, rfl, ?_⟩
                          exact hΦ _ _ ⟨updV_same, H⟩
                      · clear H
                        intro w' x hS hx
                        obtain ⟨e5, H⟩ := hS
                        have e0 : x 0 = .pointer (some ⟨b11, 0, none⟩) := hx 0 (by decide) (by decide)
                        have e1 : x 1 = .int .i64 x6.kind := hx 1 (by decide) (by decide)
                        have e2 : x 2 = .pointer (some ⟨b9, 4, none⟩) := hx 2 (by decide) (by decide)
                        have e3 : x 3 = .func (.func 92) #[] #[] := hx 3 (by decide) (by decide)
                        have e4 : x 4 = .agg #[.int .i64 x6.kind, .string x6.key, .int .i64 x6.value, .slice A3e1 x6.list.length c3e1, .bool x6.has, .bool x6.isNil] := hx 4 (by decide) (by decide)
                        simp only [e0, e1, e2, e3, e4, e5]
                        clear hx
                        refine list_end ?_
                        refine block_norm ?_
                        refine then_norm ?_
                        refine wp_region_lit ?_
                        apply seq_op (V := .int .i64 (IntKind.i64.wrap ((k6 : Int) + 1))) rfl
                        · intro Φ hΦ; refine O_bin rfl rfl rfl eqg_int r_add ?_; exact hΦ
                        (try simp only [Act.put, List.setIfInBounds_toArray, List.set_cons_succ, List.set_cons_zero])
                        apply seq_op (V := .int .i64 (IntKind.i64.wrap ((k6 : Int) + 1))) rfl
                        · intro Φ hΦ; refine O_mv rfl rfl ?_; exact hΦ
                        (try simp only [Act.put, List.setIfInBounds_toArray, List.set_cons_succ, List.set_cons_zero])
                        refine list_end ?_
                        refine then_norm ?_
                        replace H := H.drop
                        refine ⟨⟨⟨rfl, rfl, rfl, rfl, rfl, rfl, rfl, rfl, rfl, rfl, rfl, rfl, rfl, rfl, rfl, rfl, rfl, rfl, rfl, rfl, rfl, rfl, rfl, rfl, rfl, rfl⟩, rfl⟩, ⟨k6 + 1, _, y6_c4_0, r_y6_c4_0, y6_c4_1, r_y6_c4_1, hd6'', wrap_succ hl6 hn6, hq6, H⟩, ?_⟩
                        exact meas_succ hl6 hn6
                    · replace hq6 := ifF hg6 hq6
                      cases hq6
          · have hc3 := hc
            clear hc
            replace hq6 := ifF hc3 hq6
            refine wp_skip ?_
            refine block_norm ?_
            refine then_norm ?_
            refine wp_region_lit ?_
            apply seq_op (V := .int .i64 (IntKind.i64.wrap ((k6 : Int) + 1))) rfl
            · intro Φ hΦ; refine O_bin rfl rfl rfl eqg_int r_add ?_; exact hΦ
            (try simp only [Act.put, List.setIfInBounds_toArray, List.set_cons_succ, List.set_cons_zero])
            apply seq_op (V := .int .i64 (IntKind.i64.wrap ((k6 : Int) + 1))) rfl
            · intro Φ hΦ; refine O_mv rfl rfl ?_; exact hΦ
            (try simp only [Act.put, List.setIfInBounds_toArray, List.set_cons_succ, List.set_cons_zero])
            refine list_end ?_
            refine then_norm ?_
            replace H := H.drop
            refine ⟨⟨⟨rfl, rfl, rfl, rfl, rfl, rfl, rfl, rfl, rfl, rfl, rfl, rfl, rfl, rfl, rfl, rfl, rfl, rfl, rfl, rfl, rfl, rfl, rfl, rfl, rfl, rfl⟩, rfl⟩, ⟨k6 + 1, _, y6_c4_0, r_y6_c4_0, y6_c4_1, r_y6_c4_1, hd6'', wrap_succ hl6 hn6, hq6, H⟩, ?_⟩
            exact meas_succ hl6 hn6
      · replace hq6 := ifF hg1 hq6
        refine wp_region_lit ?_
        apply seq_op (V := .bool a2) rfl
        · intro Φ hΦ; refine O_mv rfl rfl ?_; exact hΦ
        (try simp only [Act.put, List.setIfInBounds_toArray, List.set_cons_succ, List.set_cons_zero])
        apply seq_op (V := .bool (!a2)) rfl
        · intro Φ hΦ; refine O_not rfl rfl ?_; exact hΦ
        (try simp only [Act.put, List.setIfInBounds_toArray, List.set_cons_succ, List.set_cons_zero])
        apply seq_op (V := .bool (!a2)) rfl
        · intro Φ hΦ; refine O_mv rfl rfl ?_; exact hΦ
        (try simp only [Act.put, List.setIfInBounds_toArray, List.set_cons_succ, List.set_cons_zero])
        refine seq_skip ((wanted_t rfl rfl rfl).trans hg1) ?_
        (try simp only [Act.put, List.setIfInBounds_toArray, List.set_cons_succ, List.set_cons_zero])
        refine seq_skip ((wanted_t rfl rfl rfl).trans hg1) ?_
        (try simp only [Act.put, List.setIfInBounds_toArray, List.set_cons_succ, List.set_cons_zero])
        refine seq_skip ((wanted_t rfl rfl rfl).trans hg1) ?_
        (try simp only [Act.put, List.setIfInBounds_toArray, List.set_cons_succ, List.set_cons_zero])
        refine seq_skip ((wanted_t rfl rfl rfl).trans hg1) ?_
        (try simp only [Act.put, List.setIfInBounds_toArray, List.set_cons_succ, List.set_cons_zero])
        apply seq_op (V := .bool false) rfl
        · intro Φ hΦ; refine O_pickF rfl rfl hg1 rfl ?_; exact hΦ
        (try simp only [Act.put, List.setIfInBounds_toArray, List.set_cons_succ, List.set_cons_zero])
        refine list_end ?_
        refine then_norm ?_
        refine wp_cond_false rfl ?_
        refine wp_skip ?_
        refine then_norm ?_
        refine wp_seq ?_
        refine wp_region_lit ?_
        apply seq_op (V := .pointer (some ⟨b11, 0, none⟩)) rfl
        · intro Φ hΦ; refine O_fld rfl Try.underlying35 rfl (Try.sizeOf3 _) rfl ?_; exact hΦ
        (try simp only [Act.put, List.setIfInBounds_toArray, List.set_cons_succ, List.set_cons_zero])
        apply seq_op (V := .int .i64 x6.kind) rfl
        · intro Φ hΦ; refine L_1 0 _ _ rfl (Try.isAgg3 _) rfl H rfl rfl ?_; exact hΦ
        (try simp only [Act.put, List.setIfInBounds_toArray, List.set_cons_succ, List.set_cons_zero])
        apply seq_op (V := .bool (decide (x6.kind > 0))) rfl
        · intro Φ hΦ; refine O_bin rfl rfl rfl eqg_int r_gtr ?_; exact hΦ
        (try simp only [Act.put, List.setIfInBounds_toArray, List.set_cons_succ, List.set_cons_zero])
        apply seq_op (V := .bool (decide (x6.kind > 0))) rfl
        · intro Φ hΦ; refine O_mv rfl rfl ?_; exact hΦ
        (try simp only [Act.put, List.setIfInBounds_toArray, List.set_cons_succ, List.set_cons_zero])
        refine seq_opg (c := (decide (x6.kind > 0))) (V := .pointer (some ⟨b11, 0, none⟩)) (by first | exact wanted_t rfl rfl rfl | exact wanted_vt rfl rfl rfl) ?_ ?_
        · intro hc Φ hΦ; refine O_fld rfl Try.underlying35 rfl (Try.sizeOf3 _) rfl ?_; exact hΦ
        (try simp only [Act.put, List.setIfInBounds_toArray, List.set_cons_succ, List.set_cons_zero])
        refine seq_opg (c := (decide (x6.kind > 0))) (V := .int .i64 x6.kind) (by first | exact wanted_t rfl rfl rfl | exact wanted_vt rfl rfl rfl) ?_ ?_
        · intro hc Φ hΦ; (repeat (first | rw [vg_of hc] | rw [vg_of (and_l hc)] | rw [vg_of (and_l (and_l hc))] | rw [vg_of (and_l (and_l (and_l hc)))] | rw [vg_and hc])); refine L_1 0 _ _ rfl (Try.isAgg3 _) rfl H rfl rfl ?_; exact hΦ
        (try simp only [Act.put, List.setIfInBounds_toArray, List.set_cons_succ, List.set_cons_zero])
        refine seq_opg (c := (decide (x6.kind > 0))) (V := .bool (decide (x6.kind < 5))) (by first | exact wanted_t rfl rfl rfl | exact wanted_vt rfl rfl rfl) ?_ ?_
        · intro hc Φ hΦ; (repeat (first | rw [vg_of hc] | rw [vg_of (and_l hc)] | rw [vg_of (and_l (and_l hc))] | rw [vg_of (and_l (and_l (and_l hc)))] | rw [vg_and hc])); refine O_bin rfl rfl rfl eqg_int r_lss ?_; exact hΦ
        (try simp only [Act.put, List.setIfInBounds_toArray, List.set_cons_succ, List.set_cons_zero])
        apply seq_op (V := .bool ((decide (x6.kind > 0)) && (decide (x6.kind < 5)))) rfl
        · intro Φ hΦ; refine G_and _ _ _ rfl rfl rfl rfl ?_; exact hΦ
        (try simp only [Act.put, List.setIfInBounds_toArray, List.set_cons_succ, List.set_cons_zero])
        refine list_end ?_
        refine then_norm ?_
        refine wp_cond_split rfl (fun hc => ?_) (fun hc => ?_)
        · have hc2 := hc
          clear hc
          replace hq6 := ifT hc2 hq6
          rcases Bool.eq_false_or_eq_true (x6.kind == 0) with hg2 | hg2
          · replace hq6 := ifT hg2 hq6
            refine wp_draw_C (k := 6) (sz := 54) [5] [.pointer (some ⟨b11, 0, none⟩), .int .i64 x6.kind, .pointer (some ⟨b9, 0, none⟩), .func (.func 92) #[] #[], .agg #[.int .i64 x6.kind, .string x6.key, .int .i64 x6.value, .slice A3e1 x6.list.length c3e1, .bool x6.has, .bool x6.isNil], undef] [pt b11 (.cells #[.int .i64 x6.kind, .string x6.key, .int .i64 x6.value, .slice A3e1 x6.list.length c3e1, .bool x6.has, .bool x6.isNil] 35 (0, 0)), pt b9 (.cells #[.func (.func 92) #[] #[], .func (.func 93) #[.pointer (some ⟨br10, 0, none⟩)] #[], .func (.func 92) #[] #[], .func (.func 94) #[.pointer (some ⟨br10, 0, none⟩)] #[], .func (.func 92) #[] #[]] 114 (0, 0))] [fun w x => x 5 = .tuple #[] ∧ Holds E s (pt b11 (.cells #[.int .i64 x6.kind, .string x6.key, .int .i64 x6.value, .slice A3e1 x6.list.length c3e1, .bool x6.has, .bool x6.isNil] 35 (0, 0)) :: pt b9 (.cells #[.func (.func 92) #[] #[], .func (.func 93) #[.pointer (some ⟨br10, 0, none⟩)] #[], .func (.func 92) #[] #[], .func (.func 94) #[.pointer (some ⟨br10, 0, none⟩)] #[], .func (.func 92) #[] #[]] 114 (0, 0)) :: pt b_p0 (.cells #[.map (some r_p0_lists), .map (some r_p0_regs)] 112 (0, 0)) :: mpO kcS kI s r_p0_lists a0.lists :: mpF kcS vcI r_p0_regs a0.regs :: pt br10 (.cells #[.map (some r_y6_c4_0), .map (some r_y6_c4_1)] 112 (0, 0)) :: mpO kcS kI s r_y6_c4_0 y6_c4_0 :: mpF kcS vcI r_y6_c4_1 y6_c4_1 :: L) w] mixed (by simp) rfl (by kernel_rfl) (by kernel_rfl) (by kernel_rfl) (by simp) rfl H (by simp only [List.take_succ_cons, List.take_zero]; exact rfl) (by simp only [List.drop_succ_cons, List.drop_zero]; exact rfl)
              (fun x => by simp only [ov, Act.put, List.setIfInBounds_toArray, List.set_cons_succ, List.set_cons_zero, Nat.zero_add, Nat.reduceAdd]; exact rfl) ?_ ?_ ?_ ?_
            · refine ⟨?_, ?_, trivial⟩
              · intro w x hS; have H : Holds E s (pt b11 (.cells #[.int .i64 x6.kind, .string x6.key, .int .i64 x6.value, .slice A3e1 x6.list.length c3e1, .bool x6.has, .bool x6.isNil] 35 (0, 0)) :: pt b9 (.cells #[.func (.func 92) #[] #[], .func (.func 93) #[.pointer (some ⟨br10, 0, none⟩)] #[], .func (.func 92) #[] #[], .func (.func 94) #[.pointer (some ⟨br10, 0, none⟩)] #[], .func (.func 92) #[] #[]] 114 (0, 0)) :: pt b_p0 (.cells #[.map (some r_p0_lists), .map (some r_p0_regs)] 112 (0, 0)) :: mpO kcS kI s r_p0_lists a0.lists :: mpF kcS vcI r_p0_regs a0.regs :: pt br10 (.cells #[.map (some r_y6_c4_0), .map (some r_y6_c4_1)] 112 (0, 0)) :: mpO kcS kI s r_y6_c4_0 y6_c4_0 :: mpF kcS vcI r_y6_c4_1 y6_c4_1 :: L) w := hS; replace H := H.front 1 rfl; simp only [List.eraseIdx_cons_succ, List.eraseIdx_cons_zero] at H; replace H := H.front 1 rfl; simp only [List.eraseIdx_cons_succ, List.eraseIdx_cons_zero] at H; exact ⟨_, _, Sub.refl _, H⟩
              · intro w x hS; obtain ⟨e5, H⟩ := hS; replace H := H.front 1 rfl; simp only [List.eraseIdx_cons_succ, List.eraseIdx_cons_zero] at H; replace H := H.front 1 rfl; simp only [List.eraseIdx_cons_succ, List.eraseIdx_cons_zero] at H; exact ⟨_, _, Sub.refl _, H⟩
            · refine ⟨?_, ?_, ?_, ?_, ?_, ?_, trivial⟩
              · refine .inr ?_; intro s' R w' x Φ hs H hx hΦ; refine wantG rfl ?_; refine O_fld rfl Try.underlying35 rfl (Try.sizeOf3 _) rfl ?_; exact hΦ
              · refine .inr ?_; intro s' R w' x Φ hs H hx hΦ; have e0 : x 0 = .pointer (some ⟨b11, 0, none⟩) := hx 0 (by decide) (by decide); simp only [e0]; refine wantG rfl ?_; refine L_1 0 _ _ rfl (Try.isAgg3 _) rfl H rfl rfl ?_; exact hΦ
              · refine .inr ?_; intro s' R w' x Φ hs H hx hΦ; have e1 : x 1 = .int .i64 x6.kind := hx 1 (by decide) (by decide); simp only [e1]; refine wantG rfl ?_; refine O_ixA (k := 0) rfl Try.underlying114 (Try.sizeOf113 _) rfl rfl hg2 (by decide) ?_; exact hΦ
              · refine .inr ?_; intro s' R w' x Φ hs H hx hΦ; have e2 : x 2 = .pointer (some ⟨b9, 0, none⟩) := hx 2 (by decide) (by decide); simp only [e2]; refine wantG rfl ?_; refine L_1 1 _ _ rfl (Try.isAgg113 _) rfl H rfl rfl ?_; exact hΦ
              · refine .inr ?_; intro s' R w' x Φ hs H hx hΦ; refine wantG rfl ?_; refine G_pNi 0 _ _ rfl (Try.isAgg35 _) rfl H rfl (Try.sizeOf35 _) ?_; exact hΦ
              · exact .inl (by decide)
            · refine ⟨?_, trivial⟩
              · intro o ho; obtain rfl := Option.some.inj ho; intro w' x Φ hS hx hΦ
                have H : Holds E s (pt b11 (.cells #[.int .i64 x6.kind, .string x6.key, .int .i64 x6.value, .slice A3e1 x6.list.length c3e1, .bool x6.has, .bool x6.isNil] 35 (0, 0)) :: pt b9 (.cells #[.func (.func 92) #[] #[], .func (.func 93) #[.pointer (some ⟨br10, 0, none⟩)] #[], .func (.func 92) #[] #[], .func (.func 94) #[.pointer (some ⟨br10, 0, none⟩)] #[], .func (.func 92) #[] #[]] 114 (0, 0)) :: pt b_p0 (.cells #[.map (some r_p0_lists), .map (some r_p0_regs)] 112 (0, 0)) :: mpO kcS kI s r_p0_lists a0.lists :: mpF kcS vcI r_p0_regs a0.regs :: pt br10 (.cells #[.map (some r_y6_c4_0), .map (some r_y6_c4_1)] 112 (0, 0)) :: mpO kcS kI s r_y6_c4_0 y6_c4_0 :: mpF kcS vcI r_y6_c4_1 y6_c4_1 :: L) w' := hS; clear hS
                have e3 : x 3 = .func (.func 92) #[] #[] := hx 3 (by decide) (by decide)
                have e4 : x 4 = .agg #[.int .i64 x6.kind, .string x6.key, .int .i64 x6.value, .slice A3e1 x6.list.length c3e1, .bool x6.has, .bool x6.isNil] := hx 4 (by decide) (by decide)
                simp only [e3, e4]
                refine wantG rfl ?_
                refine O_callv1 (args := #[.agg #[.int .i64 x6.kind, .string x6.key, .int .i64 x6.value, .slice A3e1 x6.list.length c3e1, .bool x6.has, .bool x6.isNil]]) (v1 := .agg #[.int .i64 x6.kind, .string x6.key, .int .i64 x6.value, .slice A3e1 x6.list.length c3e1, .bool x6.has, .bool x6.isNil]) rfl Try.func92 rfl rfl rfl rfl (by simp only [Array.append_empty]) ?_; refine (model_State_does_1_w (a0 := x6) (h_p0_list := h3e1) (H := H)).mono ?_
                clear H
                rintro e w1 ⟨rfl, H⟩; refine ⟨_, rfl, ?_⟩
                exact hΦ _ _ ⟨updV_same, H⟩
            · clear H
              intro w' x hS hx
              obtain ⟨e5, H⟩ := hS
              have e0 : x 0 = .pointer (some ⟨b11, 0, none⟩) := hx 0 (by decide) (by decide)
              have e1 : x 1 = .int .i64 x6.kind := hx 1 (by decide) (by decide)
              have e2 : x 2 = .pointer (some ⟨b9, 0, none⟩) := hx 2 (by decide) (by decide)
              have e3 : x 3 = .func (.func 92) #[] #[] := hx 3 (by decide) (by decide)
              have e4 : x 4 = .agg #[.int .i64 x6.kind, .string x6.key, .int .i64 x6.value, .slice A3e1 x6.list.length c3e1, .bool x6.has, .bool x6.isNil] := hx 4 (by decide) (by decide)
              simp only [e0, e1, e2, e3, e4, e5]
              clear hx
              refine list_end ?_
              refine block_norm ?_
              refine then_norm ?_
              refine wp_region_lit ?_
              apply seq_op (V := .int .i64 (IntKind.i64.wrap ((k6 : Int) + 1))) rfl
              · intro Φ hΦ; refine O_bin rfl rfl rfl eqg_int r_add ?_; exact hΦ
              (try simp only [Act.put, List.setIfInBounds_toArray, List.set_cons_succ, List.set_cons_zero])
              apply seq_op (V := .int .i64 (IntKind.i64.wrap ((k6 : Int) + 1))) rfl
              · intro Φ hΦ; refine O_mv rfl rfl ?_; exact hΦ
              (try simp only [Act.put, List.setIfInBounds_toArray, List.set_cons_succ, List.set_cons_zero])
              refine list_end ?_
              refine then_norm ?_
              replace H := H.drop
              refine ⟨⟨⟨rfl, rfl, rfl, rfl, rfl, rfl, rfl, rfl, rfl, rfl, rfl, rfl, rfl, rfl, rfl, rfl, rfl, rfl, rfl, rfl, rfl, rfl, rfl, rfl, rfl, rfl⟩, rfl⟩, ⟨k6 + 1, _, y6_c4_0, r_y6_c4_0, y6_c4_1, r_y6_c4_1, hd6'', wrap_succ hl6 hn6, hq6, H⟩, ?_⟩
              exact meas_succ hl6 hn6
          · replace hq6 := ifF hg2 hq6
            rcases Bool.eq_false_or_eq_true (x6.kind == 1) with hg3 | hg3
            · replace hq6 := ifT hg3 hq6
              obtain ⟨u1, gx1, hq6⟩ := bs hq6
              refine wp_draw_C (k := 6) (sz := 54) [5] [.pointer (some ⟨b11, 0, none⟩), .int .i64 x6.kind, .pointer (some ⟨b9, 1, none⟩), .func (.func 93) #[.pointer (some ⟨br10, 0, none⟩)] #[], .agg #[.int .i64 x6.kind, .string x6.key, .int .i64 x6.value, .slice A3e1 x6.list.length c3e1, .bool x6.has, .bool x6.isNil], undef] [pt b11 (.cells #[.int .i64 x6.kind, .string x6.key, .int .i64 x6.value, .slice A3e1 x6.list.length c3e1, .bool x6.has, .bool x6.isNil] 35 (0, 0)), pt b9 (.cells #[.func (.func 92) #[] #[], .func (.func 93) #[.pointer (some ⟨br10, 0, none⟩)] #[], .func (.func 92) #[] #[], .func (.func 94) #[.pointer (some ⟨br10, 0, none⟩)] #[], .func (.func 92) #[] #[]] 114 (0, 0))] [fun w x => ∃ (rr3o0_lists : Nat) (rr3o0_regs : Nat), x 5 = .tuple #[] ∧ Holds E s (pt br10 (.cells #[.map (some rr3o0_lists), .map (some rr3o0_regs)] 112 (0, 0)) :: mpO kcS kI s rr3o0_lists u1.lists :: mpF kcS vcI rr3o0_regs u1.regs :: pt b11 (.cells #[.int .i64 x6.kind, .string x6.key, .int .i64 x6.value, .slice A3e1 x6.list.length c3e1, .bool x6.has, .bool x6.isNil] 35 (0, 0)) :: pt b9 (.cells #[.func (.func 92) #[] #[], .func (.func 93) #[.pointer (some ⟨br10, 0, none⟩)] #[], .func (.func 92) #[] #[], .func (.func 94) #[.pointer (some ⟨br10, 0, none⟩)] #[], .func (.func 92) #[] #[]] 114 (0, 0)) :: pt b_p0 (.cells #[.map (some r_p0_lists), .map (some r_p0_regs)] 112 (0, 0)) :: mpO kcS kI s r_p0_lists a0.lists :: mpF kcS vcI r_p0_regs a0.regs :: L) w] mixed (by simp) rfl (by kernel_rfl) (by kernel_rfl) (by kernel_rfl) (by simp) rfl H (by simp only [List.take_succ_cons, List.take_zero]; exact rfl) (by simp only [List.drop_succ_cons, List.drop_zero]; exact rfl)
                (fun x => by simp only [ov, Act.put, List.setIfInBounds_toArray, List.set_cons_succ, List.set_cons_zero, Nat.zero_add, Nat.reduceAdd]; exact rfl) ?_ ?_ ?_ ?_
              · refine ⟨?_, ?_, trivial⟩
                · intro w x hS; have H : Holds E s (pt b11 (.cells #[.int .i64 x6.kind, .string x6.key, .int .i64 x6.value, .slice A3e1 x6.list.length c3e1, .bool x6.has, .bool x6.isNil] 35 (0, 0)) :: pt b9 (.cells #[.func (.func 92) #[] #[], .func (.func 93) #[.pointer (some ⟨br10, 0, none⟩)] #[], .func (.func 92) #[] #[], .func (.func 94) #[.pointer (some ⟨br10, 0, none⟩)] #[], .func (.func 92) #[] #[]] 114 (0, 0)) :: pt b_p0 (.cells #[.map (some r_p0_lists), .map (some r_p0_regs)] 112 (0, 0)) :: mpO kcS kI s r_p0_lists a0.lists :: mpF kcS vcI r_p0_regs a0.regs :: pt br10 (.cells #[.map (some r_y6_c4_0), .map (some r_y6_c4_1)] 112 (0, 0)) :: mpO kcS kI s r_y6_c4_0 y6_c4_0 :: mpF kcS vcI r_y6_c4_1 y6_c4_1 :: L) w := hS; replace H := H.front 1 rfl; simp only [List.eraseIdx_cons_succ, List.eraseIdx_cons_zero] at H; replace H := H.front 1 rfl; simp only [List.eraseIdx_cons_succ, List.eraseIdx_cons_zero] at H; exact ⟨_, _, Sub.refl _, H⟩
                · intro w x hS; obtain ⟨rr3o0_lists, rr3o0_regs, e5, H⟩ := hS; replace H := H.front 4 rfl; simp only [List.eraseIdx_cons_succ, List.eraseIdx_cons_zero] at H; replace H := H.front 4 rfl; simp only [List.eraseIdx_cons_succ, List.eraseIdx_cons_zero] at H; exact ⟨_, _, Sub.refl _, H⟩
              · refine ⟨?_, ?_, ?_, ?_, ?_, ?_, trivial⟩
                · refine .inr ?_; intro s' R w' x Φ hs H hx hΦ; refine wantG rfl ?_; refine O_fld rfl Try.underlying35 rfl (Try.sizeOf3 _) rfl ?_; exact hΦ
                · refine .inr ?_; intro s' R w' x Φ hs H hx hΦ; have e0 : x 0 = .pointer (some ⟨b11, 0, none⟩) := hx 0 (by decide) (by decide); simp only [e0]; refine wantG rfl ?_; refine L_1 0 _ _ rfl (Try.isAgg3 _) rfl H rfl rfl ?_; exact hΦ
                · refine .inr ?_; intro s' R w' x Φ hs H hx hΦ; have e1 : x 1 = .int .i64 x6.kind := hx 1 (by decide) (by decide); simp only [e1]; refine wantG rfl ?_; refine O_ixA (k := 1) rfl Try.underlying114 (Try.sizeOf113 _) rfl rfl hg3 (by decide) ?_; exact hΦ
                · refine .inr ?_; intro s' R w' x Φ hs H hx hΦ; have e2 : x 2 = .pointer (some ⟨b9, 1, none⟩) := hx 2 (by decide) (by decide); simp only [e2]; refine wantG rfl ?_; refine L_1 1 _ _ rfl (Try.isAgg113 _) rfl H rfl rfl ?_; exact hΦ
                · refine .inr ?_; intro s' R w' x Φ hs H hx hΦ; refine wantG rfl ?_; refine G_pNi 0 _ _ rfl (Try.isAgg35 _) rfl H rfl (Try.sizeOf35 _) ?_; exact hΦ
                · exact .inl (by decide)
              · refine ⟨?_, trivial⟩
                · intro o ho; obtain rfl := Option.some.inj ho; intro w' x Φ hS hx hΦ
                  have H : Holds E s (pt b11 (.cells #[.int .i64 x6.kind, .string x6.key, .int .i64 x6.value, .slice A3e1 x6.list.length c3e1, .bool x6.has, .bool x6.isNil] 35 (0, 0)) :: pt b9 (.cells #[.func (.func 92) #[] #[], .func (.func 93) #[.pointer (some ⟨br10, 0, none⟩)] #[], .func (.func 92) #[] #[], .func (.func 94) #[.pointer (some ⟨br10, 0, none⟩)] #[], .func (.func 92) #[] #[]] 114 (0, 0)) :: pt b_p0 (.cells #[.map (some r_p0_lists), .map (some r_p0_regs)] 112 (0, 0)) :: mpO kcS kI s r_p0_lists a0.lists :: mpF kcS vcI r_p0_regs a0.regs :: pt br10 (.cells #[.map (some r_y6_c4_0), .map (some r_y6_c4_1)] 112 (0, 0)) :: mpO kcS kI s r_y6_c4_0 y6_c4_0 :: mpF kcS vcI r_y6_c4_1 y6_c4_1 :: L) w' := hS; clear hS
                  have e3 : x 3 = .func (.func 93) #[.pointer (some ⟨br10, 0, none⟩)] #[] := hx 3 (by decide) (by decide)
                  have e4 : x 4 = .agg #[.int .i64 x6.kind, .string x6.key, .int .i64 x6.value, .slice A3e1 x6.list.length c3e1, .bool x6.has, .bool x6.isNil] := hx 4 (by decide) (by decide)
                  simp only [e3, e4]
                  refine wantG rfl ?_
                  replace H := H.front 7 rfl; simp only [List.eraseIdx_cons_succ, List.eraseIdx_cons_zero] at H
                  replace H := H.front 7 rfl; simp only [List.eraseIdx_cons_succ, List.eraseIdx_cons_zero] at H
                  replace H := H.front 7 rfl; simp only [List.eraseIdx_cons_succ, List.eraseIdx_cons_zero] at H
                  refine O_callb1 rfl Try.func93 rfl rfl rfl rfl ?_; refine (model_State_append_w (a0 := (⟨y6_c4_0, y6_c4_1⟩ : MSt)) (a1 := x6) (hz_p1_key := h1e1) (hr_p1_value := h2e1) (h_p1_list := h3e1) (hm := gx1) (H := H)).mono ?_
                  clear H
                  rintro e w1 ⟨rr3o0_lists, rr3o0_regs, rfl, H⟩; refine ⟨_, rfl, ?_⟩
                  exact hΦ _ _ ⟨rr3o0_lists, rr3o0_regs, updV_same, H⟩
              · clear H
                intro w' x hS hx
                obtain ⟨rr3o0_lists, rr3o0_regs, e5, H⟩ := hS
                have e0 : x 0 = .pointer (some ⟨b11, 0, none⟩) := hx 0 (by decide) (by decide)
                have e1 : x 1 = .int .i64 x6.kind := hx 1 (by decide) (by decide)
                have e2 : x 2 = .pointer (some ⟨b9, 1, none⟩) := hx 2 (by decide) (by decide)
                have e3 : x 3 = .func (.func 93) #[.pointer (some ⟨br10, 0, none⟩)] #[] := hx 3 (by decide) (by decide)
                have e4 : x 4 = .agg #[.int .i64 x6.kind, .string x6.key, .int .i64 x6.value, .slice A3e1 x6.list.length c3e1, .bool x6.has, .bool x6.isNil] := hx 4 (by decide) (by decide)
                simp only [e0, e1, e2, e3, e4, e5]
                clear hx
                refine list_end ?_
                refine block_norm ?_
                refine then_norm ?_
                refine wp_region_lit ?_
                apply seq_op (V := .int .i64 (IntKind.i64.wrap ((k6 : Int) + 1))) rfl
                · intro Φ hΦ; refine O_bin rfl rfl rfl eqg_int r_add ?_; exact hΦ
                (try simp only [Act.put, List.setIfInBounds_toArray, List.set_cons_succ, List.set_cons_zero])
                apply seq_op (V := .int .i64 (IntKind.i64.wrap ((k6 : Int) + 1))) rfl
                · intro Φ hΦ; refine O_mv rfl rfl ?_; exact hΦ
                (try simp only [Act.put, List.setIfInBounds_toArray, List.set_cons_succ, List.set_cons_zero])
                refine list_end ?_
                refine then_norm ?_
                replace H := H.front 2 rfl; simp only [List.eraseIdx_cons_succ, List.eraseIdx_cons_zero] at H
                replace H := H.front 2 rfl; simp only [List.eraseIdx_cons_succ, List.eraseIdx_cons_zero] at H
                replace H := H.front 2 rfl; simp only [List.eraseIdx_cons_succ, List.eraseIdx_cons_zero] at H
                replace H := H.front 7 rfl; simp only [List.eraseIdx_cons_succ, List.eraseIdx_cons_zero] at H
                replace H := H.front 7 rfl; simp only [List.eraseIdx_cons_succ, List.eraseIdx_cons_zero] at H
                replace H := H.front 7 rfl; simp only [List.eraseIdx_cons_succ, List.eraseIdx_cons_zero] at H
                replace H := H.front 7 rfl; simp only [List.eraseIdx_cons_succ, List.eraseIdx_cons_zero] at H
                replace H := H.dropAt 7 rfl; simp only [List.eraseIdx_cons_succ, List.eraseIdx_cons_zero] at H
                refine ⟨⟨⟨rfl, rfl, rfl, rfl, rfl, rfl, rfl, rfl, rfl, rfl, rfl, rfl, rfl, rfl, rfl, rfl, rfl, rfl, rfl, rfl, rfl, rfl, rfl, rfl, rfl, rfl⟩, rfl⟩, ⟨k6 + 1, _, u1.lists, rr3o0_lists, u1.regs, rr3o0_regs, hd6'', wrap_succ hl6 hn6, hq6, H⟩, ?_⟩
                exact meas_succ hl6 hn6
            · replace hq6 := ifF hg3 hq6
              rcases Bool.eq_false_or_eq_true (x6.kind == 2) with hg4 | hg4
              · replace hq6 := ifT hg4 hq6
                refine wp_draw_C (k := 6) (sz := 54) [5] [.pointer (some ⟨b11, 0, none⟩), .int .i64 x6.kind, .pointer (some ⟨b9, 2, none⟩), .func (.func 92) #[] #[], .agg #[.int .i64 x6.kind, .string x6.key, .int .i64 x6.value, .slice A3e1 x6.list.length c3e1, .bool x6.has, .bool x6.isNil], undef] [pt b11 (.cells #[.int .i64 x6.kind, .string x6.key, .int .i64 x6.value, .slice A3e1 x6.list.length c3e1, .bool x6.has, .bool x6.isNil] 35 (0, 0)), pt b9 (.cells #[.func (.func 92) #[] #[], .func (.func 93) #[.pointer (some ⟨br10, 0, none⟩)] #[], .func (.func 92) #[] #[], .func (.func 94) #[.pointer (some ⟨br10, 0, none⟩)] #[], .func (.func 92) #[] #[]] 114 (0, 0))] [fun w x => x 5 = .tuple #[] ∧ Holds E s (pt b11 (.cells #[.int .i64 x6.kind, .string x6.key, .int .i64 x6.value, .slice A3e1 x6.list.length c3e1, .bool x6.has, .bool x6.isNil] 35 (0, 0)) :: pt b9 (.cells #[.func (.func 92) #[] #[], .func (.func 93) #[.pointer (some ⟨br10, 0, none⟩)] #[], .func (.func 92) #[] #[], .func (.func 94) #[.pointer (some ⟨br10, 0, none⟩)] #[], .func (.func 92) #[] #[]] 114 (0, 0)) :: pt b_p0 (.cells #[.map (some r_p0_lists), .map (some r_p0_regs)] 112 (0, 0)) :: mpO kcS kI s r_p0_lists a0.lists :: mpF kcS vcI r_p0_regs a0.regs :: pt br10 (.cells #[.map (some r_y6_c4_0), .map (some r_y6_c4_1)] 112 (0, 0)) :: mpO kcS kI s r_y6_c4_0 y6_c4_0 :: mpF kcS vcI r_y6_c4_1 y6_c4_1 :: L) w] mixed (by simp) rfl (by kernel_rfl) (by kernel_rfl) (by kernel_rfl) (by simp) rfl H (by simp only [List.take_succ_cons, List.take_zero]; exact rfl) (by simp only [List.drop_succ_cons, List.drop_zero]; exact rfl)
                  (fun x => by simp only [ov, Act.put, List.setIfInBounds_toArray, List.set_cons_succ, List.set_cons_zero, Nat.zero_add, Nat.reduceAdd]; exact rfl) ?_ ?_ ?_ ?_
                · refine ⟨?_, ?_, trivial⟩
                  · intro w x hS; have H : Holds E s (pt b11 (.cells #[.int .i64 x6.kind, .string x6.key, .int .i64 x6.value, .slice A3e1 x6.list.length c3e1, .bool x6.has, .bool x6.isNil] 35 (0, 0)) :: pt b9 (.cells #[.func (.func 92) #[] #[], .func (.func 93) #[.pointer (some ⟨br10, 0, none⟩)] #[], .func (.func 92) #[] #[], .func (.func 94) #[.pointer (some ⟨br10, 0, none⟩)] #[], .func (.func 92) #[] #[]] 114 (0, 0)) :: pt b_p0 (.cells #[.map (some r_p0_lists), .map (some r_p0_regs)] 112 (0, 0)) :: mpO kcS kI s r_p0_lists a0.lists :: mpF kcS vcI r_p0_regs a0.regs :: pt br10 (.cells #[.map (some r_y6_c4_0), .map (some r_y6_c4_1)] 112 (0, 0)) :: mpO kcS kI s r_y6_c4_0 y6_c4_0 :: mpF kcS vcI r_y6_c4_1 y6_c4_1 :: L) w := hS; replace H := H.front 1 rfl; simp only [List.eraseIdx_cons_succ, List.eraseIdx_cons_zero] at H; replace H := H.front 1 rfl; simp only [List.eraseIdx_cons_succ, List.eraseIdx_cons_zero] at H; exact ⟨_, _, Sub.refl _, H⟩
                  · intro w x hS; obtain ⟨e5, H⟩ := hS; replace H := H.front 1 rfl; simp only [List.eraseIdx_cons_succ, List.eraseIdx_cons_zero] at H; replace H := H.front 1 rfl; simp only [List.eraseIdx_cons_succ, List.eraseIdx_cons_zero] at H; exact ⟨_, _, Sub.refl _, H⟩
                · refine ⟨?_, ?_, ?_, ?_, ?_, ?_, trivial⟩
                  · refine .inr ?_; intro s' R w' x Φ hs H hx hΦ; refine wantG rfl ?_; refine O_fld rfl Try.underlying35 rfl (Try.sizeOf3 _) rfl ?_; exact hΦ
                  · refine .inr ?_; intro s' R w' x Φ hs H hx hΦ; have e0 : x 0 = .pointer (some ⟨b11, 0, none⟩) := hx 0 (by decide) (by decide); simp only [e0]; refine wantG rfl ?_; refine L_1 0 _ _ rfl (Try.isAgg3 _) rfl H rfl rfl ?_; exact hΦ
                  · refine .inr ?_; intro s' R w' x Φ hs H hx hΦ; have e1 : x 1 = .int .i64 x6.kind := hx 1 (by decide) (by decide); simp only [e1]; refine wantG rfl ?_; refine O_ixA (k := 2) rfl Try.underlying114 (Try.sizeOf113 _) rfl rfl hg4 (by decide) ?_; exact hΦ
                  · refine .inr ?_; intro s' R w' x Φ hs H hx hΦ; have e2 : x 2 = .pointer (some ⟨b9, 2, none⟩) := hx 2 (by decide) (by decide); simp only [e2]; refine wantG rfl ?_; refine L_1 1 _ _ rfl (Try.isAgg113 _) rfl H rfl rfl ?_; exact hΦ
                  · refine .inr ?_; intro s' R w' x Φ hs H hx hΦ; refine wantG rfl ?_; refine G_pNi 0 _ _ rfl (Try.isAgg35 _) rfl H rfl (Try.sizeOf35 _) ?_; exact hΦ
                  · exact .inl (by decide)
                · refine ⟨?_, trivial⟩
                  · intro o ho; obtain rfl := Option.some.inj ho; intro w' x Φ hS hx hΦ
                    have H : Holds E s (pt b11 (.cells #[.int .i64 x6.kind, .string x6.key, .int .i64 x6.value, .slice A3e1 x6.list.length c3e1, .bool x6.has, .bool x6.isNil] 35 (0, 0)) :: pt b9 (.cells #[.func (.func 92) #[] #[], .func (.func 93) #[.pointer (some ⟨br10, 0, none⟩)] #[], .func (.func 92) #[] #[], .func (.func 94) #[.pointer (some ⟨br10, 0, none⟩)] #[], .func (.func 92) #[] #[]] 114 (0, 0)) :: pt b_p0 (.cells #[.map (some r_p0_lists), .map (some r_p0_regs)] 112 (0, 0)) :: mpO kcS kI s r_p0_lists a0.lists :: mpF kcS vcI r_p0_regs a0.regs :: pt br10 (.cells #[.map (some r_y6_c4_0), .map (some r_y6_c4_1)] 112 (0, 0)) :: mpO kcS kI s r_y6_c4_0 y6_c4_0 :: mpF kcS vcI r_y6_c4_1 y6_c4_1 :: L) w' := hS; clear hS
                    have e3 : x 3 = .func (.func 92) #[] #[] := hx 3 (by decide) (by decide)
                    have e4 : x 4 = .agg #[.int .i64 x6.kind, .string x6.key, .int .i64 x6.value, .slice A3e1 x6.list.length c3e1, .bool x6.has, .bool x6.isNil] := hx 4 (by decide) (by decide)
                    simp only [e3, e4]
                    refine wantG rfl ?_
                    refine O_callv1 (args := #[.agg #[.int .i64 x6.kind, .string x6.key, .int .i64 x6.value, .slice A3e1 x6.list.length c3e1, .bool x6.has, .bool x6.isNil]]) (v1 := .agg #[.int .i64 x6.kind, .string x6.key, .int .i64 x6.value, .slice A3e1 x6.list.length c3e1, .bool x6.has, .bool x6.isNil]) rfl Try.func92 rfl rfl rfl rfl (by simp only [Array.append_empty]) ?_; refine (model_State_does_1_w (a0 := x6) (h_p0_list := h3e1) (H := H)).mono ?_
                    clear H
                    rintro e w1 ⟨rfl, H⟩; refine ⟨_, rfl, ?_⟩
                    exact hΦ _ _ ⟨updV_same, H⟩
                · clear H
                  intro w' x hS hx
                  obtain ⟨e5, H⟩ := hS
                  have e0 : x 0 = .pointer (some ⟨b11, 0, none⟩) := hx 0 (by decide) (by decide)
                  have e1 : x 1 = .int .i64 x6.kind := hx 1 (by decide) (by decide)
                  have e2 : x 2 = .pointer (some ⟨b9, 2, none⟩) := hx 2 (by decide) (by decide)
                  have e3 : x 3 = .func (.func 92) #[] #[] := hx 3 (by decide) (by decide)
                  have e4 : x 4 = .agg #[.int .i64 x6.kind, .string x6.key, .int .i64 x6.value, .slice A3e1 x6.list.length c3e1, .bool x6.has, .bool x6.isNil] := hx 4 (by decide) (by decide)
                  simp only [e0, e1, e2, e3, e4, e5]
                  clear hx
                  refine list_end ?_
                  refine block_norm ?_
                  refine then_norm ?_
                  refine wp_region_lit ?_
                  apply seq_op (V := .int .i64 (IntKind.i64.wrap ((k6 : Int) + 1))) rfl
                  · intro Φ hΦ; refine O_bin rfl rfl rfl eqg_int r_add ?_; exact hΦ
                  (try simp only [Act.put, List.setIfInBounds_toArray, List.set_cons_succ, List.set_cons_zero])
                  apply seq_op (V := .int .i64 (IntKind.i64.wrap ((k6 : Int) + 1))) rfl
                  · intro Φ hΦ; refine O_mv rfl rfl ?_; exact hΦ
                  (try simp only [Act.put, List.setIfInBounds_toArray, List.set_cons_succ, List.set_cons_zero])
                  refine list_end ?_
                  refine then_norm ?_
                  replace H := H.drop
                  refine ⟨⟨⟨rfl, rfl, rfl, rfl, rfl, rfl, rfl, rfl, rfl, rfl, rfl, rfl, rfl, rfl, rfl, rfl, rfl, rfl, rfl, rfl, rfl, rfl, rfl, rfl, rfl, rfl⟩, rfl⟩, ⟨k6 + 1, _, y6_c4_0, r_y6_c4_0, y6_c4_1, r_y6_c4_1, hd6'', wrap_succ hl6 hn6, hq6, H⟩, ?_⟩
                  exact meas_succ hl6 hn6
              · replace hq6 := ifF hg4 hq6
                rcases Bool.eq_false_or_eq_true (x6.kind == 3) with hg5 | hg5
                · replace hq6 := ifT hg5 hq6
                  refine wp_draw_C (k := 6) (sz := 54) [5] [.pointer (some ⟨b11, 0, none⟩), .int .i64 x6.kind, .pointer (some ⟨b9, 3, none⟩), .func (.func 94) #[.pointer (some ⟨br10, 0, none⟩)] #[], .agg #[.int .i64 x6.kind, .string x6.key, .int .i64 x6.value, .slice A3e1 x6.list.length c3e1, .bool x6.has, .bool x6.isNil], undef] [pt b11 (.cells #[.int .i64 x6.kind, .string x6.key, .int .i64 x6.value, .slice A3e1 x6.list.length c3e1, .bool x6.has, .bool x6.isNil] 35 (0, 0)), pt b9 (.cells #[.func (.func 92) #[] #[], .func (.func 93) #[.pointer (some ⟨br10, 0, none⟩)] #[], .func (.func 92) #[] #[], .func (.func 94) #[.pointer (some ⟨br10, 0, none⟩)] #[], .func (.func 92) #[] #[]] 114 (0, 0))] [fun w x => ∃ (rr3o0_lists : Nat) (rr3o0_regs : Nat), x 5 = .tuple #[] ∧ Holds E s (pt br10 (.cells #[.map (some rr3o0_lists), .map (some rr3o0_regs)] 112 (0, 0)) :: mpO kcS kI s rr3o0_lists ((model_State_write_f (⟨y6_c4_0, y6_c4_1⟩ : MSt) x6).lists) :: mpF kcS vcI rr3o0_regs ((model_State_write_f (⟨y6_c4_0, y6_c4_1⟩ : MSt) x6).regs) :: pt b11 (.cells #[.int .i64 x6.kind, .string x6.key, .int .i64 x6.value, .slice A3e1 x6.list.length c3e1, .bool x6.has, .bool x6.isNil] 35 (0, 0)) :: pt b9 (.cells #[.func (.func 92) #[] #[], .func (.func 93) #[.pointer (some ⟨br10, 0, none⟩)] #[], .func (.func 92) #[] #[], .func (.func 94) #[.pointer (some ⟨br10, 0, none⟩)] #[], .func (.func 92) #[] #[]] 114 (0, 0)) :: pt b_p0 (.cells #[.map (some r_p0_lists), .map (some r_p0_regs)] 112 (0, 0)) :: mpO kcS kI s r_p0_lists a0.lists :: mpF kcS vcI r_p0_regs a0.regs :: L) w] mixed (by simp) rfl (by kernel_rfl) (by kernel_rfl) (by kernel_rfl) (by simp) rfl H (by simp only [List.take_succ_cons, List.take_zero]; exact rfl) (by simp only [List.drop_succ_cons, List.drop_zero]; exact rfl)
                    (fun x => by simp only [ov, Act.put, List.setIfInBounds_toArray, List.set_cons_succ, List.set_cons_zero, Nat.zero_add, Nat.reduceAdd]; exact rfl) ?_ ?_ ?_ ?_
                  · refine ⟨?_, ?_, trivial⟩
                    · intro w x hS; have H : Holds E s (pt b11 (.cells #[.int .i64 x6.kind, .string x6.key, .int .i64 x6.value, .slice A3e1 x6.list.length c3e1, .bool x6.has, .bool x6.isNil] 35 (0, 0)) :: pt b9 (.cells #[.func (.func 92) #[] #[], .func (.func 93) #[.pointer (some ⟨br10, 0, none⟩)] #[], .func (.func 92) #[] #[], .func (.func 94) #[.pointer (some ⟨br10, 0, none⟩)] #[], .func (.func 92) #[] #[]] 114 (0, 0)) :: pt b_p0 (.cells #[.map (some r_p0_lists), .map (some r_p0_regs)] 112 (0, 0)) :: mpO kcS kI s r_p0_lists a0.lists :: mpF kcS vcI r_p0_regs a0.regs :: pt br10 (.cells #[.map (some r_y6_c4_0), .map (some r_y6_c4_1)] 112 (0, 0)) :: mpO kcS kI s r_y6_c4_0 y6_c4_0 :: mpF kcS vcI r_y6_c4_1 y6_c4_1 :: L) w := hS; replace H := H.front 1 rfl; simp only [List.eraseIdx_cons_succ, List.eraseIdx_cons_zero] at H; replace H := H.front 1 rfl; simp only [List.eraseIdx_cons_succ, List.eraseIdx_cons_zero] at H; exact ⟨_, _, Sub.refl _, H⟩
                    · intro w x hS; obtain ⟨rr3o0_lists, rr3o0_regs, e5, H⟩ := hS; replace H := H.front 4 rfl; simp only [List.eraseIdx_cons_succ, List.eraseIdx_cons_zero] at H; replace H := H.front 4 rfl; simp only [List.eraseIdx_cons_succ, List.eraseIdx_cons_zero] at H; exact ⟨_, _, Sub.refl _, H⟩
                  · refine ⟨?_, ?_, ?_, ?_, ?_, ?_, trivial⟩
                    · refine .inr ?_; intro s' R w' x Φ hs H hx hΦ; refine wantG rfl ?_; refine O_fld rfl Try.underlying35 rfl (Try.sizeOf3 _) rfl ?_; exact hΦ
                    · refine .inr ?_; intro s' R w' x Φ hs H hx hΦ; have e0 : x 0 = .pointer (some ⟨b11, 0, none⟩) := hx 0 (by decide) (by decide); simp only [e0]; refine wantG rfl ?_; refine L_1 0 _ _ rfl (Try.isAgg3 _) rfl H rfl rfl ?_; exact hΦ
                    · refine .inr ?_; intro s' R w' x Φ hs H hx hΦ; have e1 : x 1 = .int .i64 x6.kind := hx 1 (by decide) (by decide); simp only [e1]; refine wantG rfl ?_; refine O_ixA (k := 3) rfl Try.underlying114 (Try.sizeOf113 _) rfl rfl hg5 (by decide) ?_; exact hΦ
                    · refine .inr ?_; intro s' R w' x Φ hs H hx hΦ; have e2 : x 2 = .pointer (some ⟨b9, 3, none⟩) := hx 2 (by decide) (by decide); simp only [e2]; refine wantG rfl ?_; refine L_1 1 _ _ rfl (Try.isAgg113 _) rfl H rfl rfl ?_; exact hΦ
                    · refine .inr ?_; intro s' R w' x Φ hs H hx hΦ; refine wantG rfl ?_; refine G_pNi 0 _ _ rfl (Try.isAgg35 _) rfl H rfl (Try.sizeOf35 _) ?_; exact hΦ
                    · exact .inl (by decide)
                  · refine ⟨?_, trivial⟩
                    · intro o ho; obtain rfl := Option.some.inj ho; intro w' x Φ hS hx hΦ
                      have H : Holds E s (pt b11 (.cells #[.int .i64 x6.kind, .string x6.key, .int .i64 x6.value, .slice A3e1 x6.list.length c3e1, .bool x6.has, .bool x6.isNil] 35 (0, 0)) :: pt b9 (.cells #[.func (.func 92) #[] #[], .func (.func 93) #[.pointer (some ⟨br10, 0, none⟩)] #[], .func (.func 92) #[] #[], .func (.func 94) #[.pointer (some ⟨br10, 0, none⟩)] #[], .func (.func 92) #[] #[]] 114 (0, 0)) :: pt b_p0 (.cells #[.map (some r_p0_lists), .map (some r_p0_regs)] 112 (0, 0)) :: mpO kcS kI s r_p0_lists a0.lists :: mpF kcS vcI r_p0_regs a0.regs :: pt br10 (.cells #[.map (some r_y6_c4_0), .map (some r_y6_c4_1)] 112 (0, 0)) :: mpO kcS kI s r_y6_c4_0 y6_c4_0 :: mpF kcS vcI r_y6_c4_1 y6_c4_1 :: L) w' := hS; clear hS
                      have e3 : x 3 = .func (.func 94) #[.pointer (some ⟨br10, 0, none⟩)] #[] := hx 3 (by decide) (by decide)
                      have e4 : x 4 = .agg #[.int .i64 x6.kind, .string x6.key, .int .i64 x6.value, .slice A3e1 x6.list.length c3e1, .bool x6.has, .bool x6.isNil] := hx 4 (by decide) (by decide)
                      simp only [e3, e4]
                      refine wantG rfl ?_
                      replace H := H.front 7 rfl; simp only [List.eraseIdx_cons_succ, List.eraseIdx_cons_zero] at H
                      replace H := H.front 7 rfl; simp only [List.eraseIdx_cons_succ, List.eraseIdx_cons_zero] at H
                      replace H := H.front 7 rfl; simp only [List.eraseIdx_cons_succ, List.eraseIdx_cons_zero] at H
                      refine O_callb1 rfl Try.func94 rfl rfl rfl rfl ?_; refine (model_State_write_w (a0 := (⟨y6_c4_0, y6_c4_1⟩ : MSt)) (a1 := x6) (hz_p1_key := h1e1) (h_p1_list := h3e1) (H := H)).mono ?_
                      clear H
                      rintro e w1 ⟨rr3o0_lists, rr3o0_regs, rfl, H⟩; refine ⟨_, rfl, ?_⟩
                      exact hΦ _ _ ⟨rr3o0_lists, rr3o0_regs, updV_same, H⟩
                  · clear H
                    intro w' x hS hx
                    obtain ⟨rr3o0_lists, rr3o0_regs, e5, H⟩ := hS
                    have e0 : x 0 = .pointer (some ⟨b11, 0, none⟩) := hx 0 (by decide) (by decide)
                    have e1 : x 1 = .int .i64 x6.kind := hx 1 (by decide) (by decide)
                    have e2 : x 2 = .pointer (some ⟨b9, 3, none⟩) := hx 2 (by decide) (by decide)
                    have e3 : x 3 = .func (.func 94) #[.pointer (some ⟨br10, 0, none⟩)] #[] := hx 3 (by decide) (by decide)
                    have e4 : x 4 = .agg #[.int .i64 x6.kind, .string x6.key, .int .i64 x6.value, .slice A3e1 x6.list.length c3e1, .bool x6.has, .bool x6.isNil] := hx 4 (by decide) (by decide)
                    simp only [e0, e1, e2, e3, e4, e5]
                    clear hx
                    refine list_end ?_
                    refine block_norm ?_
                    refine then_norm ?_
                    refine wp_region_lit ?_
                    apply seq_op (V := .int .i64 (IntKind.i64.wrap ((k6 : Int) + 1))) rfl
                    · intro Φ hΦ; refine O_bin rfl rfl rfl eqg_int r_add ?_; exact hΦ
                    (try simp only [Act.put, List.setIfInBounds_toArray, List.set_cons_succ, List.set_cons_zero])
                    apply seq_op (V := .int .i64 (IntKind.i64.wrap ((k6 : Int) + 1))) rfl
                    · intro Φ hΦ; refine O_mv rfl rfl ?_; exact hΦ
                    (try simp only [Act.put, List.setIfInBounds_toArray, List.set_cons_succ, List.set_cons_zero])
                    refine list_end ?_
                    refine then_norm ?_
                    replace H := H.front 2 rfl; simp only [List.eraseIdx_cons_succ, List.eraseIdx_cons_zero] at H
                    replace H := H.front 2 rfl; simp only [List.eraseIdx_cons_succ, List.eraseIdx_cons_zero] at H
                    replace H := H.front 2 rfl; simp only [List.eraseIdx_cons_succ, List.eraseIdx_cons_zero] at H
                    replace H := H.front 7 rfl; simp only [List.eraseIdx_cons_succ, List.eraseIdx_cons_zero] at H
                    replace H := H.front 7 rfl; simp only [List.eraseIdx_cons_succ, List.eraseIdx_cons_zero] at H
                    replace H := H.front 7 rfl; simp only [List.eraseIdx_cons_succ, List.eraseIdx_cons_zero] at H
                    replace H := H.front 7 rfl; simp only [List.eraseIdx_cons_succ, List.eraseIdx_cons_zero] at H
                    replace H := H.dropAt 7 rfl; simp only [List.eraseIdx_cons_succ, List.eraseIdx_cons_zero] at H
                    refine ⟨⟨⟨rfl, rfl, rfl, rfl, rfl, rfl, rfl, rfl, rfl, rfl, rfl, rfl, rfl, rfl, rfl, rfl, rfl, rfl, rfl, rfl, rfl, rfl, rfl, rfl, rfl, rfl⟩, rfl⟩, ⟨k6 + 1, _, ((model_State_write_f (⟨y6_c4_0, y6_c4_1⟩ : MSt) x6).lists), rr3o0_lists, ((model_State_write_f (⟨y6_c4_0, y6_c4_1⟩ : MSt) x6).regs), rr3o0_regs, hd6'', wrap_succ hl6 hn6, hq6, H⟩, ?_⟩
                    exact meas_succ hl6 hn6
                · replace hq6 := ifF hg5 hq6
                  rcases Bool.eq_false_or_eq_true (x6.kind == 4) with hg6 | hg6
                  · replace hq6 := ifT hg6 hq6
                    refine wp_draw_C (k := 6) (sz := 54) [5] [.pointer (some ⟨b11, 0, none⟩), .int .i64 x6.kind, .pointer (some ⟨b9, 4, none⟩), .func (.func 92) #[] #[], .agg #[.int .i64 x6.kind, .string x6.key, .int .i64 x6.value, .slice A3e1 x6.list.length c3e1, .bool x6.has, .bool x6.isNil], undef] [pt b11 (.cells #[.int .i64 x6.kind, .string x6.key, .int .i64 x6.value, .slice A3e1 x6.list.length c3e1, .bool x6.has, .bool x6.isNil] 35 (0, 0)), pt b9 (.cells #[.func (.func 92) #[] #[], .func (.func 93) #[.pointer (some ⟨br10, 0, none⟩)] #[], .func (.func 92) #[] #[], .func (.func 94) #[.pointer (some ⟨br10, 0, none⟩)] #[], .func (.func 92) #[] #[]] 114 (0, 0))] [fun w x => x 5 = .tuple #[] ∧ Holds E s (pt b11 (.cells #[.int .i64 x6.kind, .string x6.key, .int .i64 x6.value, .slice A3e1 x6.list.length c3e1, .bool x6.has, .bool x6.isNil] 35 (0, 0)) :: pt b9 (.cells #[.func (.func 92) #[] #[], .func (.func 93) #[.pointer (some ⟨br10, 0, none⟩)] #[], .func (.func 92) #[] #[], .func (.func 94) #[.pointer (some ⟨br10, 0, none⟩)] #[], .func (.func 92) #[] #[]] 114 (0, 0)) :: pt b_p0 (.cells #[.map (some r_p0_lists), .map (some r_p0_regs)] 112 (0, 0)) :: mpO kcS kI s r_p0_lists a0.lists :: mpF kcS vcI r_p0_regs a0.regs :: pt br10 (.cells #[.map (some r_y6_c4_0), .map (some r_y6_c4_1)] 112 (0, 0)) :: mpO kcS kI s r_y6_c4_0 y6_c4_0 :: mpF kcS vcI r_y6_c4_1 y6_c4_1 :: L) w] mixed (by simp) rfl (by kernel_rfl) (by kernel_rfl) (by kernel_rfl) (by simp) rfl H (by simp only [List.take_succ_cons, List.take_zero]; exact rfl) (by simp only [List.drop_succ_cons, List.drop_zero]; exact rfl)
                      (fun x => by simp only [ov, Act.put, List.setIfInBounds_toArray, List.set_cons_succ, List.set_cons_zero, Nat.zero_add, Nat.reduceAdd]; exact rfl) ?_ ?_ ?_ ?_
                    · refine ⟨?_, ?_, trivial⟩
                      · intro w x hS; have H : Holds E s (pt b11 (.cells #[.int .i64 x6.kind, .string x6.key, .int .i64 x6.value, .slice A3e1 x6.list.length c3e1, .bool x6.has, .bool x6.isNil] 35 (0, 0)) :: pt b9 (.cells #[.func (.func 92) #[] #[], .func (.func 93) #[.pointer (some ⟨br10, 0, none⟩)] #[], .func (.func 92) #[] #[], .func (.func 94) #[.pointer (some ⟨br10, 0, none⟩)] #[], .func (.func 92) #[] #[]] 114 (0, 0)) :: pt b_p0 (.cells #[.map (some r_p0_lists), .map (some r_p0_regs)] 112 (0, 0)) :: mpO kcS kI s r_p0_lists a0.lists :: mpF kcS vcI r_p0_regs a0.regs :: pt br10 (.cells #[.map (some r_y6_c4_0), .map (some r_y6_c4_1)] 112 (0, 0)) :: mpO kcS kI s r_y6_c4_0 y6_c4_0 :: mpF kcS vcI r_y6_c4_1 y6_c4_1 :: L) w := hS; replace H := H.front 1 rfl; simp only [List.eraseIdx_cons_succ, List.eraseIdx_cons_zero] at H; replace H := H.front 1 rfl; simp only [List.eraseIdx_cons_succ, List.eraseIdx_cons_zero] at H; exact ⟨_, _, Sub.refl _, H⟩
                      · intro w x hS; obtain ⟨e5, H⟩ := hS; replace H := H.front 1 rfl; simp only [List.eraseIdx_cons_succ, List.eraseIdx_cons_zero] at H; replace H := H.front 1 rfl; simp only [List.eraseIdx_cons_succ, List.eraseIdx_cons_zero] at H; exact ⟨_, _, Sub.refl _, H⟩
                    · refine ⟨?_, ?_, ?_, ?_, ?_, ?_, trivial⟩
                      · refine .inr ?_; intro s' R w' x Φ hs H hx hΦ; refine wantG rfl ?_; refine O_fld rfl Try.underlying35 rfl (Try.sizeOf3 _) rfl ?_; exact hΦ
                      · refine .inr ?_; intro s' R w' x Φ hs H hx hΦ; have e0 : x 0 = .pointer (some ⟨b11, 0, none⟩) := hx 0 (by decide) (by decide); simp only [e0]; refine wantG rfl ?_; refine L_1 0 _ _ rfl (Try.isAgg3 _) rfl H rfl rfl ?_; exact hΦ
                      · refine .inr ?_; intro s' R w' x Φ hs H hx hΦ; have e1 : x 1 = .int .i64 x6.kind := hx 1 (by decide) (by decide); simp only [e1]; refine wantG rfl ?_; refine O_ixA (k := 4) rfl Try.underlying114 (Try.sizeOf113 _) rfl rfl hg6 (by decide) ?_; exact hΦ
                      · refine .inr ?_; intro s' R w' x Φ hs H hx hΦ; have e2 : x 2 = .pointer (some ⟨b9, 4, none⟩) := hx 2 (by decide) (by decide); simp only [e2]; refine wantG rfl ?_; refine L_1 1 _ _ rfl (Try.isAgg113 _) rfl H rfl rfl ?_; exact hΦ
                      · refine .inr ?_; intro s' R w' x Φ hs H hx hΦ; refine wantG rfl ?_; refine G_pNi 0 _ _ rfl (Try.isAgg35 _) rfl H rfl (Try.sizeOf35 _) ?_; exact hΦ
                      · exact .inl (by decide)
                    · refine ⟨?_, trivial⟩
                      · intro o ho; obtain rfl := Option.some.inj ho; intro w' x Φ hS hx hΦ
                        have H : Holds E s (pt b11 (.cells #[.int .i64 x6.kind, .string x6.key, .int .i64 x6.value, .slice A3e1 x6.list.length c3e1, .bool x6.has, .bool x6.isNil] 35 (0, 0)) :: pt b9 (.cells #[.func (.func 92) #[] #[], .func (.func 93) #[.pointer (some ⟨br10, 0, none⟩)] #[], .func (.func 92) #[] #[], .func (.func 94) #[.pointer (some ⟨br10, 0, none⟩)] #[], .func (.func 92) #[] #[]] 114 (0, 0)) :: pt b_p0 (.cells #[.map (some r_p0_lists), .map (some r_p0_regs)] 112 (0, 0)) :: mpO kcS kI s r_p0_lists a0.lists :: mpF kcS vcI r_p0_regs a0.regs :: pt br10 (.cells #[.map (some r_y6_c4_0), .map (some r_y6_c4_1)] 112 (0, 0)) :: mpO kcS kI s r_y6_c4_0 y6_c4_0 :: mpF kcS vcI r_y6_c4_1 y6_c4_1 :: L) w' := hS; clear hS
                        have e3 : x 3 = .func (.func 92) #[] #[] := hx 3 (by decide) (by decide)
                        have e4 : x 4 = .agg #[.int .i64 x6.kind, .string x6.key, .int .i64 x6.value, .slice A3e1 x6.list.length c3e1, .bool x6.has, .bool x6.isNil] := hx 4 (by decide) (by decide)
                        simp only [e3, e4]
                        refine wantG rfl ?_
                        refine O_callv1 (args := #[.agg #[.int .i64 x6.kind, .string x6.key, .int .i64 x6.value, .slice A3e1 x6.list.length c3e1, .bool x6.has, .bool x6.isNil]]) (v1 := .agg #[.int .i64 x6.kind, .string x6.key, .int .i64 x6.value, .slice A3e1 x6.list.length c3e1, .bool x6.has, .bool x6.isNil]) rfl Try.func92 rfl rfl rfl rfl (by simp only [Array.append_empty]) ?_; refine (model_State_does_1_w (a0 := x6) (h_p0_list := h3e1) (H := H)).mono ?_
                        clear H
                        rintro e w1 ⟨rfl, H⟩; refine ⟨_, rfl, ?_⟩
                        exact hΦ _ _ ⟨updV_same, H⟩
                    · clear H
                      intro w' x hS hx
                      obtain ⟨e5, H⟩ := hS
                      have e0 : x 0 = .pointer (some ⟨b11, 0, none⟩) := hx 0 (by decide) (by decide)
                      have e1 : x 1 = .int .i64 x6.kind := hx 1 (by decide) (by decide)
                      have e2 : x 2 = .pointer (some ⟨b9, 4, none⟩) := hx 2 (by decide) (by decide)
                      have e3 : x 3 = .func (.func 92) #[] #[] := hx 3 (by decide) (by decide)
                      have e4 : x 4 = .agg #[.int .i64 x6.kind, .string x6.key, .int .i64 x6.value, .slice A3e1 x6.list.length c3e1, .bool x6.has, .bool x6.isNil] := hx 4 (by decide) (by decide)
                      simp only [e0, e1, e2, e3, e4, e5]
                      clear hx
                      refine list_end ?_
                      refine block_norm ?_
                      refine then_norm ?_
                      refine wp_region_lit ?_
                      apply seq_op (V := .int .i64 (IntKind.i64.wrap ((k6 : Int) + 1))) rfl
                      · intro Φ hΦ; refine O_bin rfl rfl rfl eqg_int r_add ?_; exact hΦ
                      (try simp only [Act.put, List.setIfInBounds_toArray, List.set_cons_succ, List.set_cons_zero])
                      apply seq_op (V := .int .i64 (IntKind.i64.wrap ((k6 : Int) + 1))) rfl
                      · intro Φ hΦ; refine O_mv rfl rfl ?_; exact hΦ
                      (try simp only [Act.put, List.setIfInBounds_toArray, List.set_cons_succ, List.set_cons_zero])
                      refine list_end ?_
                      refine then_norm ?_
                      replace H := H.drop
                      refine ⟨⟨⟨rfl, rfl, rfl, rfl, rfl, rfl, rfl, rfl, rfl, rfl, rfl, rfl, rfl, rfl, rfl, rfl, rfl, rfl, rfl, rfl, rfl, rfl, rfl, rfl, rfl, rfl⟩, rfl⟩, ⟨k6 + 1, _, y6_c4_0, r_y6_c4_0, y6_c4_1, r_y6_c4_1, hd6'', wrap_succ hl6 hn6, hq6, H⟩, ?_⟩
                      exact meas_succ hl6 hn6
                  · replace hq6 := ifF hg6 hq6
                    cases hq6
        · have hc2 := hc
          clear hc
          replace hq6 := ifF hc2 hq6
          refine wp_skip ?_
          refine block_norm ?_
          refine then_norm ?_
          refine wp_region_lit ?_
          apply seq_op (V := .int .i64 (IntKind.i64.wrap ((k6 : Int) + 1))) rfl
          · intro Φ hΦ; refine O_bin rfl rfl rfl eqg_int r_add ?_; exact hΦ
          (try simp only [Act.put, List.setIfInBounds_toArray, List.set_cons_succ, List.set_cons_zero])
          apply seq_op (V := .int .i64 (IntKind.i64.wrap ((k6 : Int) + 1))) rfl
          · intro Φ hΦ; refine O_mv rfl rfl ?_; exact hΦ
          (try simp only [Act.put, List.setIfInBounds_toArray, List.set_cons_succ, List.set_cons_zero])
          refine list_end ?_
          refine then_norm ?_
          replace H := H.drop
          refine ⟨⟨⟨rfl, rfl, rfl, rfl, rfl, rfl, rfl, rfl, rfl, rfl, rfl, rfl, rfl, rfl, rfl, rfl, rfl, rfl, rfl, rfl, rfl, rfl, rfl, rfl, rfl, rfl⟩, rfl⟩, ⟨k6 + 1, _, y6_c4_0, r_y6_c4_0, y6_c4_1, r_y6_c4_1, hd6'', wrap_succ hl6 hn6, hq6, H⟩, ?_⟩
          exact meas_succ hl6 hn6
    · have hc1 := hc
      clear hc
      obtain rfl := rng_f hd6 hc1
      rw [model_State_Apply_l6] at hq6
      refine wp_exit ?_
      refine then_exit ?_
      refine then_exit ?_
      have hq6 := Option.some.inj hq6
      subst hq6
      (try dsimp only at hm)
      refine block_exit ?_
      refine then_norm ?_
      refine wp_seq ?_
      refine wp_region_lit ?_
      apply seq_op (V := .pointer (some ⟨b_p0, 0, none⟩)) rfl
      · intro Φ hΦ; refine O_mv rfl rfl ?_; exact hΦ
      (try simp only [Act.put, List.setIfInBounds_toArray, List.set_cons_succ, List.set_cons_zero])
      apply seq_op (V := .pointer (some ⟨br10, 0, none⟩)) rfl
      · intro Φ hΦ; refine O_mv rfl rfl ?_; exact hΦ
      (try simp only [Act.put, List.setIfInBounds_toArray, List.set_cons_succ, List.set_cons_zero])
      apply seq_op (V := .pointer (some ⟨br10, 0, none⟩)) rfl
      · intro Φ hΦ; refine O_nil rfl rfl ?_; exact hΦ
      (try simp only [Act.put, List.setIfInBounds_toArray, List.set_cons_succ, List.set_cons_zero])
      apply seq_op (V := .agg #[.map (some r_y6_c4_0), .map (some r_y6_c4_1)]) rfl
      · intro Φ hΦ; refine G_pNi 4 _ _ rfl (Try.isAgg112 _) rfl H rfl (Try.sizeOf112 _) ?_; exact hΦ
      (try simp only [Act.put, List.setIfInBounds_toArray, List.set_cons_succ, List.set_cons_zero])
      apply seq_op (V := .pointer (some ⟨b_p0, 0, none⟩)) rfl
      · intro Φ hΦ; refine O_nil rfl rfl ?_; exact hΦ
      (try simp only [Act.put, List.setIfInBounds_toArray, List.set_cons_succ, List.set_cons_zero])
      refine OpG.list rfl ?_; refine G_setNi 1 (c := [.map (some r_y6_c4_0), .map (some r_y6_c4_1)]) _ _ _ rfl (Try.sizeOf112 _) rfl rfl (by simp [Value.oneCell']) H rfl rfl ?_; clear H; intro w1 H; simp only [List.set_cons_succ, List.set_cons_zero] at H
      (try simp only [Act.put, List.setIfInBounds_toArray, List.set_cons_succ, List.set_cons_zero])
      refine list_end ?_
      refine then_norm ?_
      refine wp_seq ?_
      refine wp_region_lit ?_
      apply seq_op (V := .bool true) rfl
      · intro Φ hΦ; refine O_as rfl rfl ?_; exact hΦ
      (try simp only [Act.put, List.setIfInBounds_toArray, List.set_cons_succ, List.set_cons_zero])
      refine list_end ?_
      refine then_norm ?_
      refine wp_ret ?_
      have hm := Option.some.inj hm
      subst hm
      replace H := H.front 6 rfl; simp only [List.eraseIdx_cons_succ, List.eraseIdx_cons_zero] at H
      replace H := H.front 6 rfl; simp only [List.eraseIdx_cons_succ, List.eraseIdx_cons_zero] at H
      replace H := H.front 3 rfl; simp only [List.eraseIdx_cons_succ, List.eraseIdx_cons_zero] at H
      replace H := H.dropAt 6 rfl; simp only [List.eraseIdx_cons_succ, List.eraseIdx_cons_zero] at H
      replace H := H.dropAt 5 rfl; simp only [List.eraseIdx_cons_succ, List.eraseIdx_cons_zero] at H
      replace H := H.dropAt 4 rfl; simp only [List.eraseIdx_cons_succ, List.eraseIdx_cons_zero] at H
      replace H := H.dropAt 3 rfl; simp only [List.eraseIdx_cons_succ, List.eraseIdx_cons_zero] at H
      exact ret1 rfl (rv_tmp rfl) rfl ⟨r_y6_c4_0, r_y6_c4_1, rfl, H⟩
def model_Replay_l4 (a0 : List Txn) : Nat → List Int → (Int → Option Bool) → (ByteArray → Option (List Int)) → (ByteArray → Option Int) → Option ((Bool ⊕ ((ByteArray → Option (List Int)) × (ByteArray → Option Int) × (Int → Option Bool))))
  | k4, [] , y4_p0, y4_c1_0, y4_c1_1 => some (.inr (y4_c1_0, y4_c1_1, y4_p0))
  | k4, x4 :: r4, y4_p0, y4_c1_0, y4_c1_1 => if (decide (x4 < 0)) = true then (some (.inl false)) else (if (decide (x4 ≥ (a0.length : Int))) = true then (some (.inl false)) else (if ((y4_p0 x4).getD false) = true then (some (.inl false)) else ((rdI a0 x4).bind fun u1 => (model_State_Apply_f (⟨y4_c1_0, y4_c1_1⟩ : MSt) u1.ops (u1.state == 3)).bind fun u38601 => if (!u38601.1) = true then (some (.inl false)) else (model_Replay_l4 a0 (k4 + 1) r4 (fset y4_p0 x4 true) u38601.2.lists u38601.2.regs))))

def model_Replay_f (a0 : List Txn) (a1 : List Int) : Option Bool := (model_Replay_l4 a0 0 a1 fnil model_New_f.lists model_New_f.regs).bind fun | .inl z4_r => (some z4_r) | .inr (z4_c1_0, z4_c1_1, z4_p0) => (some true)

set_option maxHeartbeats 4000000 in
theorem model_Replay_w {E : World} {s : SH} {L : List HP} {w : World} {a0 : List Txn} {a1 : List Int} {A_p0 : Option Addr} {c_p0 : Nat} (h_p0 : kT.Sl s (.slice A_p0 a0.length c_p0) a0) {A_p1 : Option Addr} {c_p1 : Nat} (h_p1 : kI.Sl s (.slice A_p1 a1.length c_p1) a1) {R : Bool} (hm : model_Replay_f a0 a1 = some R) (H : Holds E s (L) w) :
    Calls Try.prog 32 #[.slice A_p0 a0.length c_p0, .slice A_p1 a1.length c_p1] w fun e w' => e = .returned (.bool R) ∧ Holds E s (L) w' := by
  unfold model_Replay_f at hm
  go_enter Try.func32, Try.ntmps32
  refine wp_seq ?_
  refine wp_region_lit ?_
  apply seq_op (V := .bool false) rfl
  · intro Φ hΦ; refine O_as rfl rfl ?_; exact hΦ
  (try simp only [Act.put, List.setIfInBounds_toArray, List.set_cons_succ, List.set_cons_zero])
  refine list_end ?_
  refine then_norm ?_
  refine wp_seq ?_
  refine wp_region_lit ?_
  refine seq_call rfl (fun Φ hΦ => by refine O_call0 rfl Try.func25 rfl rfl  hΦ) (model_New_w  (H := H)) ?_
  clear H
  rintro e w1 ⟨br10, rr10_lists, rr10_regs, rfl, H⟩; refine ⟨_, rfl, ?_⟩
  (try simp only [Act.put, List.setIfInBounds_toArray, List.set_cons_succ, List.set_cons_zero])
  apply seq_op (V := .pointer (some ⟨br10, 0, none⟩)) rfl
  · intro Φ hΦ; refine O_as rfl rfl ?_; exact hΦ
  (try simp only [Act.put, List.setIfInBounds_toArray, List.set_cons_succ, List.set_cons_zero])
  refine list_end ?_
  refine then_norm ?_
  refine wp_seq ?_
  refine wp_region_lit ?_
  refine OpG.list rfl ?_; refine F_make (K := kcI) (V := vcB) 85 rfl H ?_; clear H; intro r10 w1 H
  (try simp only [Act.put, List.setIfInBounds_toArray, List.set_cons_succ, List.set_cons_zero])
  apply seq_op (V := .map (some r10)) rfl
  · intro Φ hΦ; refine O_as rfl rfl ?_; exact hΦ
  (try simp only [Act.put, List.setIfInBounds_toArray, List.set_cons_succ, List.set_cons_zero])
  refine list_end ?_
  refine then_norm ?_
  refine wp_seq ?_
  refine wp_seq ?_
  refine wp_region_lit ?_
  apply seq_op (V := .slice A_p1 a1.length c_p1) rfl
  · intro Φ hΦ; refine O_mv rfl rfl ?_; exact hΦ
  (try simp only [Act.put, List.setIfInBounds_toArray, List.set_cons_succ, List.set_cons_zero])
  apply seq_op (V := .int .i64 (a1.length : Int)) rfl
  · intro Φ hΦ; refine O_len rfl Try.underlying33 rfl ?_; exact hΦ
  (try simp only [Act.put, List.setIfInBounds_toArray, List.set_cons_succ, List.set_cons_zero])
  apply seq_op (V := .int .i64 0) rfl
  · intro Φ hΦ; refine O_mv rfl rfl ?_; exact hΦ
  (try simp only [Act.put, List.setIfInBounds_toArray, List.set_cons_succ, List.set_cons_zero])
  refine list_end ?_
  refine then_norm ?_
  refine wp_block ?_
  obtain ⟨R4, hq4, hm⟩ := bs hm
  have hn4 := Nat.le_trans (len_le (d := kI) h_p1 (by decide)) (by decide : (140737488355328 : Nat) ≤ 9223372036854775807)
  refine wp_loopF [none, none, none, none, some 4, none, none, none, some 8, none, none, none, none, some 13, some 14, some 15, some 16, some 17, some 18, some 19, some 20, some 21, some 22, some 23, some 24, some 25, some 26, some 27, some 28, some 29, some 30, some 31, some 32, some 33, some 34, some 35, some 36, some 37, some 38, some 39, some 40, some 41, some 42, some 43, some 44, some 45, some 46, some 47, some 48] rfl (by simp) (fun f w => ∃ (k4 : Nat) (r4 : List Int) (y4_p0 : Int → Option Bool) (y4_c1_0 : ByteArray → Option (List Int)) (r_y4_c1_0 : Nat) (y4_c1_1 : ByteArray → Option Int) (r_y4_c1_1 : Nat), a1.drop k4 = r4 ∧ f 13 = .int .i64 (k4 : Int) ∧ model_Replay_l4 a0 k4 r4 y4_p0 y4_c1_0 y4_c1_1 = some R4 ∧ Holds E s (mpF kcI vcB r10 y4_p0 :: pt br10 (.cells #[.map (some r_y4_c1_0), .map (some r_y4_c1_1)] 112 (0, 0)) :: mpO kcS kI s r_y4_c1_0 y4_c1_0 :: mpF kcS vcI r_y4_c1_1 y4_c1_1 :: L) w) (fun f w => a1.length - (intOf (f 13)).toNat) ?_ ?_
  · exact ⟨0, a1, fnil, model_New_f.lists, rr10_lists, model_New_f.regs, rr10_regs, rfl, rfl, hq4, H⟩
  · clear H
    intro f w hI
    obtain ⟨k4, r4, y4_p0, y4_c1_0, r_y4_c1_0, y4_c1_1, r_y4_c1_1, hd4, hf13, hq4', H⟩ := hI
    clear hq4; have hq4 := hq4'; clear hq4'
    simp only [ovm, mixM]
    simp only [hf13]; clear hf13
    refine wp_seq ?_
    refine wp_region_lit ?_
    apply seq_op (V := .bool (decide ((k4 : Int) < (a1.length : Int)))) rfl
    · intro Φ hΦ; refine O_bin rfl rfl rfl eqg_int r_lss ?_; exact hΦ
    (try simp only [Act.put, List.setIfInBounds_toArray, List.set_cons_succ, List.set_cons_zero])
    refine list_end ?_
    refine then_norm ?_
    refine wp_seq ?_
    refine wp_cond_split rfl (fun hc => ?_) (fun hc => ?_)
    · have hc1 := hc
      clear hc
      obtain ⟨x4, r4', rfl, hd4', hd4'', hl4⟩ := rng_t hd4 hc1
      rw [model_Replay_l4] at hq4
      refine wp_skip ?_
      refine then_norm ?_
      refine wp_seq ?_
      refine wp_block ?_
      refine wp_seq ?_
      obtain ⟨be1, oe1, rfl, hCe1, h0e1⟩ := kI_el h_p1 hd4'
      refine wp_region_lit ?_
      apply seq_op (V := .pointer (some ⟨be1, oe1 + k4 * 1, none⟩)) rfl
      · intro Φ hΦ; refine O_ix rfl Try.underlying33 (Try.sizeOf3 _) rfl rfl rfl hl4 ?_; exact hΦ
      (try simp only [Act.put, List.setIfInBounds_toArray, List.set_cons_succ, List.set_cons_zero])
      apply seq_op (V := .int .i64 x4) rfl
      · intro Φ hΦ; refine G_s1 _ _ rfl (Try.isAgg3 _) rfl H hCe1 0 rfl rfl ?_; exact hΦ
      (try simp only [Act.put, List.setIfInBounds_toArray, List.set_cons_succ, List.set_cons_zero])
      apply seq_op (V := .int .i64 x4) rfl
      · intro Φ hΦ; refine O_as rfl rfl ?_; exact hΦ
      (try simp only [Act.put, List.setIfInBounds_toArray, List.set_cons_succ, List.set_cons_zero])
      refine list_end ?_
      refine then_norm ?_
      refine wp_seq ?_
      refine wp_seq ?_
      rcases Bool.eq_false_or_eq_true (decide (x4 < 0)) with hg1 | hg1
      · replace hq4 := ifT hg1 hq4
        refine wp_draw_P (k := 29) (sz := 49) [] [[]] [] [.int .i64 x4, .bool (decide (x4 < 0)), .bool (decide (x4 < 0)), undef, undef, undef, undef, .bool true, .bool true, undef, undef, undef, .bool true, .bool true, undef, undef, undef, undef, undef, undef, undef, undef, undef, undef, undef, undef, undef, undef, .bool true] [] [] mixed (by simp) rfl (by kernel_rfl) (by kernel_rfl) (by kernel_rfl) (by simp) rfl H (by simp only [List.take_succ_cons, List.take_zero]; exact rfl) (by simp only [List.drop_succ_cons, List.drop_zero]; exact rfl)
          (fun x => by simp only [ov, Act.put, List.setIfInBounds_toArray, List.set_cons_succ, List.set_cons_zero, Nat.zero_add, Nat.reduceAdd]; exact rfl) ?_ ?_ ?_ ?_
        · refine ⟨?_, trivial⟩
          · intro w x hS; have H : Holds E s (mpF kcI vcB r10 y4_p0 :: pt br10 (.cells #[.map (some r_y4_c1_0), .map (some r_y4_c1_1)] 112 (0, 0)) :: mpO kcS kI s r_y4_c1_0 y4_c1_0 :: mpF kcS vcI r_y4_c1_1 y4_c1_1 :: L) w := hS; exact ⟨_, _, Sub.refl _, H⟩
        · refine ⟨?_, ?_, ?_, ?_, ?_, ?_, ?_, ?_, ?_, ?_, ?_, ?_, ?_, ?_, ?_, ?_, ?_, ?_, ?_, ?_, ?_, ?_, ?_, ?_, ?_, ?_, ?_, ?_, ?_, trivial⟩
          · refine .inr ?_; intro s' R w' x Φ hs H hx hΦ; refine wantG rfl ?_; refine O_mv rfl rfl ?_; exact hΦ
          · refine .inr ?_; intro s' R w' x Φ hs H hx hΦ; have e0 : x 0 = .int .i64 x4 := hx 0 (by decide) (by decide); simp only [e0]; refine wantG rfl ?_; refine O_bin rfl rfl rfl eqg_int r_lss ?_; exact hΦ
          · refine .inr ?_; intro s' R w' x Φ hs H hx hΦ; have e1 : x 1 = .bool (decide (x4 < 0)) := hx 1 (by decide) (by decide); simp only [e1]; refine wantG rfl ?_; refine O_mv rfl rfl ?_; exact hΦ
          · refine .inr ?_; intro s' R w' x Φ hs H hx hΦ; have e2 : x 2 = .bool (decide (x4 < 0)) := hx 2 (by decide) (by decide); simp only [e2]; refine wantU ((wanted_f rfl rfl rfl).trans (congrArg not hg1)) ?_; exact hΦ
          · refine .inr ?_; intro s' R w' x Φ hs H hx hΦ; have e2 : x 2 = .bool (decide (x4 < 0)) := hx 2 (by decide) (by decide); simp only [e2]; refine wantU ((wanted_f rfl rfl rfl).trans (congrArg not hg1)) ?_; exact hΦ
          · refine .inr ?_; intro s' R w' x Φ hs H hx hΦ; have e2 : x 2 = .bool (decide (x4 < 0)) := hx 2 (by decide) (by decide); simp only [e2]; refine wantU ((wanted_f rfl rfl rfl).trans (congrArg not hg1)) ?_; exact hΦ
          · refine .inr ?_; intro s' R w' x Φ hs H hx hΦ; have e2 : x 2 = .bool (decide (x4 < 0)) := hx 2 (by decide) (by decide); simp only [e2]; refine wantU ((wanted_f rfl rfl rfl).trans (congrArg not hg1)) ?_; exact hΦ
          · refine .inr ?_; intro s' R w' x Φ hs H hx hΦ; have e2 : x 2 = .bool (decide (x4 < 0)) := hx 2 (by decide) (by decide); have e6 : x 6 = undef := hx 6 (by decide) (by decide); simp only [e2, e6]; refine wantG rfl ?_; refine O_pickT rfl rfl hg1 rfl ?_; exact hΦ
          · refine .inr ?_; intro s' R w' x Φ hs H hx hΦ; have e7 : x 7 = .bool true := hx 7 (by decide) (by decide); simp only [e7]; refine wantG rfl ?_; refine O_mv rfl rfl ?_; exact hΦ
          · refine .inr ?_; intro s' R w' x Φ hs H hx hΦ; have e8 : x 8 = .bool true := hx 8 (by decide) (by decide); simp only [e8]; refine wantU ((wanted_f rfl rfl rfl).trans (congrArg not rfl)) ?_; exact hΦ
          · refine .inr ?_; intro s' R w' x Φ hs H hx hΦ; have e8 : x 8 = .bool true := hx 8 (by decide) (by decide); simp only [e8]; refine wantU ((wanted_f rfl rfl rfl).trans (congrArg not rfl)) ?_; exact hΦ
          · refine .inr ?_; intro s' R w' x Φ hs H hx hΦ; have e8 : x 8 = .bool true := hx 8 (by decide) (by decide); simp only [e8]; refine wantU ((wanted_f rfl rfl rfl).trans (congrArg not rfl)) ?_; exact hΦ
          · refine .inr ?_; intro s' R w' x Φ hs H hx hΦ; have e8 : x 8 = .bool true := hx 8 (by decide) (by decide); have e11 : x 11 = undef := hx 11 (by decide) (by decide); simp only [e8, e11]; refine wantG rfl ?_; refine O_pickT rfl rfl rfl rfl ?_; exact hΦ
          · refine .inr ?_; intro s' R w' x Φ hs H hx hΦ; have e12 : x 12 = .bool true := hx 12 (by decide) (by decide); simp only [e12]; refine wantG rfl ?_; refine O_mv rfl rfl ?_; exact hΦ
          · refine .inr ?_; intro s' R w' x Φ hs H hx hΦ; have e13 : x 13 = .bool true := hx 13 (by decide) (by decide); simp only [e13]; refine wantU ((wanted_f rfl rfl rfl).trans (congrArg not rfl)) ?_; exact hΦ
          · refine .inr ?_; intro s' R w' x Φ hs H hx hΦ; have e13 : x 13 = .bool true := hx 13 (by decide) (by decide); simp only [e13]; refine wantU ((wanted_f rfl rfl rfl).trans (congrArg not rfl)) ?_; exact hΦ
          · refine .inr ?_; intro s' R w' x Φ hs H hx hΦ; have e13 : x 13 = .bool true := hx 13 (by decide) (by decide); simp only [e13]; refine wantU ((wanted_f rfl rfl rfl).trans (congrArg not rfl)) ?_; exact hΦ
          · refine .inr ?_; intro s' R w' x Φ hs H hx hΦ; have e13 : x 13 = .bool true := hx 13 (by decide) (by decide); simp only [e13]; refine wantU ((wanted_f rfl rfl rfl).trans (congrArg not rfl)) ?_; exact hΦ
          · refine .inr ?_; intro s' R w' x Φ hs H hx hΦ; have e13 : x 13 = .bool true := hx 13 (by decide) (by decide); simp only [e13]; refine wantU ((wanted_f rfl rfl rfl).trans (congrArg not rfl)) ?_; exact hΦ
          · refine .inr ?_; intro s' R w' x Φ hs H hx hΦ; have e13 : x 13 = .bool true := hx 13 (by decide) (by decide); simp only [e13]; refine wantU ((wanted_f rfl rfl rfl).trans (congrArg not rfl)) ?_; exact hΦ
          · refine .inr ?_; intro s' R w' x Φ hs H hx hΦ; have e13 : x 13 = .bool true := hx 13 (by decide) (by decide); simp only [e13]; refine wantU ((wanted_f rfl rfl rfl).trans (congrArg not rfl)) ?_; exact hΦ
          · refine .inr ?_; intro s' R w' x Φ hs H hx hΦ; have e13 : x 13 = .bool true := hx 13 (by decide) (by decide); simp only [e13]; refine wantU ((wanted_f rfl rfl rfl).trans (congrArg not rfl)) ?_; exact hΦ
          · refine .inr ?_; intro s' R w' x Φ hs H hx hΦ; have e13 : x 13 = .bool true := hx 13 (by decide) (by decide); simp only [e13]; refine wantU ((wanted_f rfl rfl rfl).trans (congrArg not rfl)) ?_; exact hΦ
          · refine .inr ?_; intro s' R w' x Φ hs H hx hΦ; have e13 : x 13 = .bool true := hx 13 (by decide) (by decide); simp only [e13]; refine wantU ((wanted_f rfl rfl rfl).trans (congrArg not rfl)) ?_; exact hΦ
          · refine .inr ?_; intro s' R w' x Φ hs H hx hΦ; have e13 : x 13 = .bool true := hx 13 (by decide) (by decide); simp only [e13]; refine wantU ((wanted_f rfl rfl rfl).trans (congrArg not rfl)) ?_; exact hΦ
          · refine .inr ?_; intro s' R w' x Φ hs H hx hΦ; have e13 : x 13 = .bool true := hx 13 (by decide) (by decide); simp only [e13]; refine wantU ((wanted_f rfl rfl rfl).trans (congrArg not rfl)) ?_; exact hΦ
          · refine .inr ?_; intro s' R w' x Φ hs H hx hΦ; have e13 : x 13 = .bool true := hx 13 (by decide) (by decide); simp only [e13]; refine wantU ((wanted_f rfl rfl rfl).trans (congrArg not rfl)) ?_; exact hΦ
          · refine .inr ?_; intro s' R w' x Φ hs H hx hΦ; have e13 : x 13 = .bool true := hx 13 (by decide) (by decide); simp only [e13]; refine wantU ((wanted_f rfl rfl rfl).trans (congrArg not rfl)) ?_; exact hΦ
          · refine .inr ?_; intro s' R w' x Φ hs H hx hΦ; have e13 : x 13 = .bool true := hx 13 (by decide) (by decide); have e27 : x 27 = undef := hx 27 (by decide) (by decide); simp only [e13, e27]; refine wantG rfl ?_; refine O_pickT rfl rfl rfl rfl ?_; exact hΦ
        · exact trivial
        · clear H
          intro w' x hS hx
          have H : Holds E s (mpF kcI vcB r10 y4_p0 :: pt br10 (.cells #[.map (some r_y4_c1_0), .map (some r_y4_c1_1)] 112 (0, 0)) :: mpO kcS kI s r_y4_c1_0 y4_c1_0 :: mpF kcS vcI r_y4_c1_1 y4_c1_1 :: L) w' := hS; clear hS
          have e0 : x 0 = .int .i64 x4 := hx 0 (by decide) (by decide)
          have e1 : x 1 = .bool (decide (x4 < 0)) := hx 1 (by decide) (by decide)
          have e2 : x 2 = .bool (decide (x4 < 0)) := hx 2 (by decide) (by decide)
          have e3 : x 3 = undef := hx 3 (by decide) (by decide)
          have e4 : x 4 = undef := hx 4 (by decide) (by decide)
          have e5 : x 5 = undef := hx 5 (by decide) (by decide)
          have e6 : x 6 = undef := hx 6 (by decide) (by decide)
          have e7 : x 7 = .bool true := hx 7 (by decide) (by decide)
          have e8 : x 8 = .bool true := hx 8 (by decide) (by decide)
          have e9 : x 9 = undef := hx 9 (by decide) (by decide)
          have e10 : x 10 = undef := hx 10 (by decide) (by decide)
          have e11 : x 11 = undef := hx 11 (by decide) (by decide)
          have e12 : x 12 = .bool true := hx 12 (by decide) (by decide)
          have e13 : x 13 = .bool true := hx 13 (by decide) (by decide)
          have e14 : x 14 = undef := hx 14 (by decide) (by decide)
          have e15 : x 15 = undef := hx 15 (by decide) (by decide)
          have e16 : x 16 = undef := hx 16 (by decide) (by decide)
          have e17 : x 17 = undef := hx 17 (by decide) (by decide)
          have e18 : x 18 = undef := hx 18 (by decide) (by decide)
          have e19 : x 19 = undef := hx 19 (by decide) (by decide)
          have e20 : x 20 = undef := hx 20 (by decide) (by decide)
          have e21 : x 21 = undef := hx 21 (by decide) (by decide)
          have e22 : x 22 = undef := hx 22 (by decide) (by decide)
          have e23 : x 23 = undef := hx 23 (by decide) (by decide)
          have e24 : x 24 = undef := hx 24 (by decide) (by decide)
          have e25 : x 25 = undef := hx 25 (by decide) (by decide)
          have e26 : x 26 = undef := hx 26 (by decide) (by decide)
          have e27 : x 27 = undef := hx 27 (by decide) (by decide)
          have e28 : x 28 = .bool true := hx 28 (by decide) (by decide)
          simp only [e0, e1, e2, e3, e4, e5, e6, e7, e8, e9, e10, e11, e12, e13, e14, e15, e16, e17, e18, e19, e20, e21, e22, e23, e24, e25, e26, e27, e28]
          clear hx
          refine list_end ?_
          refine then_norm ?_
          refine wp_cond_true rfl ?_
          refine wp_seq ?_
          refine wp_region_lit ?_
          apply seq_op (V := .bool false) rfl
          · intro Φ hΦ; refine O_as rfl rfl ?_; exact hΦ
          (try simp only [Act.put, List.setIfInBounds_toArray, List.set_cons_succ, List.set_cons_zero])
          refine list_end ?_
          refine then_norm ?_
          refine wp_ret ?_
          refine then_ret ?_
          refine block_ret ?_
          refine then_ret ?_
          refine then_ret ?_
          refine block_ret ?_
          refine then_ret ?_
          have hq4 := Option.some.inj hq4
          subst hq4
          (try dsimp only at hm)
          have hm := Option.some.inj hm
          subst hm
          replace H := H.dropAt 3 rfl; simp only [List.eraseIdx_cons_succ, List.eraseIdx_cons_zero] at H
          replace H := H.dropAt 2 rfl; simp only [List.eraseIdx_cons_succ, List.eraseIdx_cons_zero] at H
          replace H := H.dropAt 1 rfl; simp only [List.eraseIdx_cons_succ, List.eraseIdx_cons_zero] at H
          replace H := H.dropAt 0 rfl; simp only [List.eraseIdx_cons_succ, List.eraseIdx_cons_zero] at H
          exact ret1 rfl (rv_tmp rfl) rfl ⟨rfl, H⟩
      · replace hq4 := ifF hg1 hq4
        rcases Bool.eq_false_or_eq_true (decide (x4 ≥ (a0.length : Int))) with hg2 | hg2
        · replace hq4 := ifT hg2 hq4
          refine wp_draw_P (k := 29) (sz := 49) [] [[]] [] [.int .i64 x4, .bool (decide (x4 < 0)), .bool (decide (x4 < 0)), .int .i64 x4, .slice A_p0 a0.length c_p0, .int .i64 (a0.length : Int), .bool (decide (x4 ≥ (a0.length : Int))), .bool (decide (x4 ≥ (a0.length : Int))), .bool (decide (x4 ≥ (a0.length : Int))), undef, undef, undef, .bool true, .bool true, undef, undef, undef, undef, undef, undef, undef, undef, undef, undef, undef, undef, undef, undef, .bool true] [] [] mixed (by simp) rfl (by kernel_rfl) (by kernel_rfl) (by kernel_rfl) (by simp) rfl H (by simp only [List.take_succ_cons, List.take_zero]; exact rfl) (by simp only [List.drop_succ_cons, List.drop_zero]; exact rfl)
            (fun x => by simp only [ov, Act.put, List.setIfInBounds_toArray, List.set_cons_succ, List.set_cons_zero, Nat.zero_add, Nat.reduceAdd]; exact rfl) ?_ ?_ ?_ ?_
          · refine ⟨?_, trivial⟩
            · intro w x hS; have H : Holds E s (mpF kcI vcB r10 y4_p0 :: pt br10 (.cells #[.map (some r_y4_c1_0), .map (some r_y4_c1_1)] 112 (0, 0)) :: mpO kcS kI s r_y4_c1_0 y4_c1_0 :: mpF kcS vcI r_y4_c1_1 y4_c1_1 :: L) w := hS; exact ⟨_, _, Sub.refl _, H⟩
          · refine ⟨?_, ?_, ?_, ?_, ?_, ?_, ?_, ?_, ?_, ?_, ?_, ?_, ?_, ?_, ?_, ?_, ?_, ?_, ?_, ?_, ?_, ?_, ?_, ?_, ?_, ?_, ?_, ?_, ?_, trivial⟩
            · refine .inr ?_; intro s' R w' x Φ hs H hx hΦ; refine wantG rfl ?_; refine O_mv rfl rfl ?_; exact hΦ
            · refine .inr ?_; intro s' R w' x Φ hs H hx hΦ; have e0 : x 0 = .int .i64 x4 := hx 0 (by decide) (by decide); simp only [e0]; refine wantG rfl ?_; refine O_bin rfl rfl rfl eqg_int r_lss ?_; exact hΦ
            · refine .inr ?_; intro s' R w' x Φ hs H hx hΦ; have e1 : x 1 = .bool (decide (x4 < 0)) := hx 1 (by decide) (by decide); simp only [e1]; refine wantG rfl ?_; refine O_mv rfl rfl ?_; exact hΦ
            · refine .inr ?_; intro s' R w' x Φ hs H hx hΦ; have e2 : x 2 = .bool (decide (x4 < 0)) := hx 2 (by decide) (by decide); simp only [e2]; refine wantK ((wanted_f rfl rfl rfl).trans (congrArg not hg1)) ?_; refine O_mv rfl rfl ?_; exact hΦ
            · refine .inr ?_; intro s' R w' x Φ hs H hx hΦ; have e2 : x 2 = .bool (decide (x4 < 0)) := hx 2 (by decide) (by decide); simp only [e2]; refine wantK ((wanted_f rfl rfl rfl).trans (congrArg not hg1)) ?_; refine O_mv rfl rfl ?_; exact hΦ
            · refine .inr ?_; intro s' R w' x Φ hs H hx hΦ; have e2 : x 2 = .bool (decide (x4 < 0)) := hx 2 (by decide) (by decide); have e4 : x 4 = .slice A_p0 a0.length c_p0 := hx 4 (by decide) (by decide); simp only [e2, e4]; refine wantK ((wanted_f rfl rfl rfl).trans (congrArg not hg1)) ?_; refine O_len rfl Try.underlying22 rfl ?_; exact hΦ
            · refine .inr ?_; intro s' R w' x Φ hs H hx hΦ; have e2 : x 2 = .bool (decide (x4 < 0)) := hx 2 (by decide) (by decide); have e3 : x 3 = .int .i64 x4 := hx 3 (by decide) (by decide); have e5 : x 5 = .int .i64 (a0.length : Int) := hx 5 (by decide) (by decide); simp only [e2, e3, e5]; refine wantK ((wanted_f rfl rfl rfl).trans (congrArg not hg1)) ?_; refine O_bin rfl rfl rfl eqg_int r_geq ?_; exact hΦ
            · refine .inr ?_; intro s' R w' x Φ hs H hx hΦ; have e2 : x 2 = .bool (decide (x4 < 0)) := hx 2 (by decide) (by decide); have e6 : x 6 = .bool (decide (x4 ≥ (a0.length : Int))) := hx 6 (by decide) (by decide); simp only [e2, e6]; refine wantG rfl ?_; refine O_pickF rfl rfl hg1 rfl ?_; exact hΦ
            · refine .inr ?_; intro s' R w' x Φ hs H hx hΦ; have e7 : x 7 = .bool (decide (x4 ≥ (a0.length : Int))) := hx 7 (by decide) (by decide); simp only [e7]; refine wantG rfl ?_; refine O_mv rfl rfl ?_; exact hΦ
            · refine .inr ?_; intro s' R w' x Φ hs H hx hΦ; have e8 : x 8 = .bool (decide (x4 ≥ (a0.length : Int))) := hx 8 (by decide) (by decide); simp only [e8]; refine wantU ((wanted_f rfl rfl rfl).trans (congrArg not hg2)) ?_; exact hΦ
            · refine .inr ?_; intro s' R w' x Φ hs H hx hΦ; have e8 : x 8 = .bool (decide (x4 ≥ (a0.length : Int))) := hx 8 (by decide) (by decide); simp only [e8]; refine wantU ((wanted_f rfl rfl rfl).trans (congrArg not hg2)) ?_; exact hΦ
            · refine .inr ?_; intro s' R w' x Φ hs H hx hΦ; have e8 : x 8 = .bool (decide (x4 ≥ (a0.length : Int))) := hx 8 (by decide) (by decide); simp only [e8]; refine wantU ((wanted_f rfl rfl rfl).trans (congrArg not hg2)) ?_; exact hΦ
            · refine .inr ?_; intro s' R w' x Φ hs H hx hΦ; have e8 : x 8 = .bool (decide (x4 ≥ (a0.length : Int))) := hx 8 (by decide) (by decide); have e11 : x 11 = undef := hx 11 (by decide) (by decide); simp only [e8, e11]; refine wantG rfl ?_; refine O_pickT rfl rfl hg2 rfl ?_; exact hΦ
            · refine .inr ?_; intro s' R w' x Φ hs H hx hΦ; have e12 : x 12 = .bool true := hx 12 (by decide) (by decide); simp only [e12]; refine wantG rfl ?_; refine O_mv rfl rfl ?_; exact hΦ
            · refine .inr ?_; intro s' R w' x Φ hs H hx hΦ; have e13 : x 13 = .bool true := hx 13 (by decide) (by decide); simp only [e13]; refine wantU ((wanted_f rfl rfl rfl).trans (congrArg not rfl)) ?_; exact hΦ
            · refine .inr ?_; intro s' R w' x Φ hs H hx hΦ; have e13 : x 13 = .bool true := hx 13 (by decide) (by decide); simp only [e13]; refine wantU ((wanted_f rfl rfl rfl).trans (congrArg not rfl)) ?_; exact hΦ
            · refine .inr ?_; intro s' R w' x Φ hs H hx hΦ; have e13 : x 13 = .bool true := hx 13 (by decide) (by decide); simp only [e13]; refine wantU ((wanted_f rfl rfl rfl).trans (congrArg not rfl)) ?_; exact hΦ
            · refine .inr ?_; intro s' R w' x Φ hs H hx hΦ; have e13 : x 13 = .bool true := hx 13 (by decide) (by decide); simp only [e13]; refine wantU ((wanted_f rfl rfl rfl).trans (congrArg not rfl)) ?_; exact hΦ
            · refine .inr ?_; intro s' R w' x Φ hs H hx hΦ; have e13 : x 13 = .bool true := hx 13 (by decide) (by decide); simp only [e13]; refine wantU ((wanted_f rfl rfl rfl).trans (congrArg not rfl)) ?_; exact hΦ
            · refine .inr ?_; intro s' R w' x Φ hs H hx hΦ; have e13 : x 13 = .bool true := hx 13 (by decide) (by decide); simp only [e13]; refine wantU ((wanted_f rfl rfl rfl).trans (congrArg not rfl)) ?_; exact hΦ
            · refine .inr ?_; intro s' R w' x Φ hs H hx hΦ; have e13 : x 13 = .bool true := hx 13 (by decide) (by decide); simp only [e13]; refine wantU ((wanted_f rfl rfl rfl).trans (congrArg not rfl)) ?_; exact hΦ
            · refine .inr ?_; intro s' R w' x Φ hs H hx hΦ; have e13 : x 13 = .bool true := hx 13 (by decide) (by decide); simp only [e13]; refine wantU ((wanted_f rfl rfl rfl).trans (congrArg not rfl)) ?_; exact hΦ
            · refine .inr ?_; intro s' R w' x Φ hs H hx hΦ; have e13 : x 13 = .bool true := hx 13 (by decide) (by decide); simp only [e13]; refine wantU ((wanted_f rfl rfl rfl).trans (congrArg not rfl)) ?_; exact hΦ
            · refine .inr ?_; intro s' R w' x Φ hs H hx hΦ; have e13 : x 13 = .bool true := hx 13 (by decide) (by decide); simp only [e13]; refine wantU ((wanted_f rfl rfl rfl).trans (congrArg not rfl)) ?_; exact hΦ
            · refine .inr ?_; intro s' R w' x Φ hs H hx hΦ; have e13 : x 13 = .bool true := hx 13 (by decide) (by decide); simp only [e13]; refine wantU ((wanted_f rfl rfl rfl).trans (congrArg not rfl)) ?_; exact hΦ
            · refine .inr ?_; intro s' R w' x Φ hs H hx hΦ; have e13 : x 13 = .bool true := hx 13 (by decide) (by decide); simp only [e13]; refine wantU ((wanted_f rfl rfl rfl).trans (congrArg not rfl)) ?_; exact hΦ
            · refine .inr ?_; intro s' R w' x Φ hs H hx hΦ; have e13 : x 13 = .bool true := hx 13 (by decide) (by decide); simp only [e13]; refine wantU ((wanted_f rfl rfl rfl).trans (congrArg not rfl)) ?_; exact hΦ
            · refine .inr ?_; intro s' R w' x Φ hs H hx hΦ; have e13 : x 13 = .bool true := hx 13 (by decide) (by decide); simp only [e13]; refine wantU ((wanted_f rfl rfl rfl).trans (congrArg not rfl)) ?_; exact hΦ
            · refine .inr ?_; intro s' R w' x Φ hs H hx hΦ; have e13 : x 13 = .bool true := hx 13 (by decide) (by decide); have e27 : x 27 = undef := hx 27 (by decide) (by decide); simp only [e13, e27]; refine wantG rfl ?_; refine O_pickT rfl rfl rfl rfl ?_; exact hΦ
          · exact trivial
          · clear H
            intro w' x hS hx
            have H : Holds E s (mpF kcI vcB r10 y4_p0 :: pt br10 (.cells #[.map (some r_y4_c1_0), .map (some r_y4_c1_1)] 112 (0, 0)) :: mpO kcS kI s r_y4_c1_0 y4_c1_0 :: mpF kcS vcI r_y4_c1_1 y4_c1_1 :: L) w' := hS; clear hS
            have e0 : x 0 = .int .i64 x4 := hx 0 (by decide) (by decide)
            have e1 : x 1 = .bool (decide (x4 < 0)) := hx 1 (by decide) (by decide)
            have e2 : x 2 = .bool (decide (x4 < 0)) := hx 2 (by decide) (by decide)
            have e3 : x 3 = .int .i64 x4 := hx 3 (by decide) (by decide)
            have e4 : x 4 = .slice A_p0 a0.length c_p0 := hx 4 (by decide) (by decide)
            have e5 : x 5 = .int .i64 (a0.length : Int) := hx 5 (by decide) (by decide)
            have e6 : x 6 = .bool (decide (x4 ≥ (a0.length : Int))) := hx 6 (by decide) (by decide)
            have e7 : x 7 = .bool (decide (x4 ≥ (a0.length : Int))) := hx 7 (by decide) (by decide)
            have e8 : x 8 = .bool (decide (x4 ≥ (a0.length : Int))) := hx 8 (by decide) (by decide)
            have e9 : x 9 = undef := hx 9 (by decide) (by decide)
            have e10 : x 10 = undef := hx 10 (by decide) (by decide)
            have e11 : x 11 = undef := hx 11 (by decide) (by decide)
            have e12 : x 12 = .bool true := hx 12 (by decide) (by decide)
            have e13 : x 13 = .bool true := hx 13 (by decide) (by decide)
            have e14 : x 14 = undef := hx 14 (by decide) (by decide)
            have e15 : x 15 = undef := hx 15 (by decide) (by decide)
            have e16 : x 16 = undef := hx 16 (by decide) (by decide)
            have e17 : x 17 = undef := hx 17 (by decide) (by decide)
            have e18 : x 18 = undef := hx 18 (by decide) (by decide)
            have e19 : x 19 = undef := hx 19 (by decide) (by decide)
            have e20 : x 20 = undef := hx 20 (by decide) (by decide)
            have e21 : x 21 = undef := hx 21 (by decide) (by decide)
            have e22 : x 22 = undef := hx 22 (by decide) (by decide)
            have e23 : x 23 = undef := hx 23 (by decide) (by decide)
            have e24 : x 24 = undef := hx 24 (by decide) (by decide)
            have e25 : x 25 = undef := hx 25 (by decide) (by decide)
            have e26 : x 26 = undef := hx 26 (by decide) (by decide)
            have e27 : x 27 = undef := hx 27 (by decide) (by decide)
            have e28 : x 28 = .bool true := hx 28 (by decide) (by decide)
            simp only [e0, e1, e2, e3, e4, e5, e6, e7, e8, e9, e10, e11, e12, e13, e14, e15, e16, e17, e18, e19, e20, e21, e22, e23, e24, e25, e26, e27, e28]
            clear hx
            refine list_end ?_
            refine then_norm ?_
            refine wp_cond_true rfl ?_
            refine wp_seq ?_
            refine wp_region_lit ?_
            apply seq_op (V := .bool false) rfl
            · intro Φ hΦ; refine O_as rfl rfl ?_; exact hΦ
            (try simp only [Act.put, List.setIfInBounds_toArray, List.set_cons_succ, List.set_cons_zero])
            refine list_end ?_
            refine then_norm ?_
            refine wp_ret ?_
            refine then_ret ?_
            refine block_ret ?_
            refine then_ret ?_
            refine then_ret ?_
            refine block_ret ?_
            refine then_ret ?_
            have hq4 := Option.some.inj hq4
            subst hq4
            (try dsimp only at hm)
            have hm := Option.some.inj hm
            subst hm
            replace H := H.dropAt 3 rfl; simp only [List.eraseIdx_cons_succ, List.eraseIdx_cons_zero] at H
            replace H := H.dropAt 2 rfl; simp only [List.eraseIdx_cons_succ, List.eraseIdx_cons_zero] at H
            replace H := H.dropAt 1 rfl; simp only [List.eraseIdx_cons_succ, List.eraseIdx_cons_zero] at H
            replace H := H.dropAt 0 rfl; simp only [List.eraseIdx_cons_succ, List.eraseIdx_cons_zero] at H
            exact ret1 rfl (rv_tmp rfl) rfl ⟨rfl, H⟩
        · replace hq4 := ifF hg2 hq4
          rcases Bool.eq_false_or_eq_true ((y4_p0 x4).getD false) with hg3 | hg3
          · replace hq4 := ifT hg3 hq4
            refine wp_draw_P (k := 29) (sz := 49) [] [[]] [] [.int .i64 x4, .bool (decide (x4 < 0)), .bool (decide (x4 < 0)), .int .i64 x4, .slice A_p0 a0.length c_p0, .int .i64 (a0.length : Int), .bool (decide (x4 ≥ (a0.length : Int))), .bool (decide (x4 ≥ (a0.length : Int))), .bool (decide (x4 ≥ (a0.length : Int))), .map (some r10), .int .i64 x4, .bool ((y4_p0 x4).getD false), .bool ((y4_p0 x4).getD false), .bool ((y4_p0 x4).getD false), undef, undef, undef, undef, undef, undef, undef, undef, undef, undef, undef, undef, undef, undef, .bool true] [mpF kcI vcB r10 y4_p0] [] mixed (by simp) rfl (by kernel_rfl) (by kernel_rfl) (by kernel_rfl) (by simp) rfl H (by simp only [List.take_succ_cons, List.take_zero]; exact rfl) (by simp only [List.drop_succ_cons, List.drop_zero]; exact rfl)
              (fun x => by simp only [ov, Act.put, List.setIfInBounds_toArray, List.set_cons_succ, List.set_cons_zero, Nat.zero_add, Nat.reduceAdd]; exact rfl) ?_ ?_ ?_ ?_
            · refine ⟨?_, trivial⟩
              · intro w x hS; have H : Holds E s (mpF kcI vcB r10 y4_p0 :: pt br10 (.cells #[.map (some r_y4_c1_0), .map (some r_y4_c1_1)] 112 (0, 0)) :: mpO kcS kI s r_y4_c1_0 y4_c1_0 :: mpF kcS vcI r_y4_c1_1 y4_c1_1 :: L) w := hS; exact ⟨_, _, Sub.refl _, H⟩
            · refine ⟨?_, ?_, ?_, ?_, ?_, ?_, ?_, ?_, ?_, ?_, ?_, ?_, ?_, ?_, ?_, ?_, ?_, ?_, ?_, ?_, ?_, ?_, ?_, ?_, ?_, ?_, ?_, ?_, ?_, trivial⟩
              · refine .inr ?_; intro s' R w' x Φ hs H hx hΦ; refine wantG rfl ?_; refine O_mv rfl rfl ?_; exact hΦ
              · refine .inr ?_; intro s' R w' x Φ hs H hx hΦ; have e0 : x 0 = .int .i64 x4 := hx 0 (by decide) (by decide); simp only [e0]; refine wantG rfl ?_; refine O_bin rfl rfl rfl eqg_int r_lss ?_; exact hΦ
              · refine .inr ?_; intro s' R w' x Φ hs H hx hΦ; have e1 : x 1 = .bool (decide (x4 < 0)) := hx 1 (by decide) (by decide); simp only [e1]; refine wantG rfl ?_; refine O_mv rfl rfl ?_; exact hΦ
              · refine .inr ?_; intro s' R w' x Φ hs H hx hΦ; have e2 : x 2 = .bool (decide (x4 < 0)) := hx 2 (by decide) (by decide); simp only [e2]; refine wantK ((wanted_f rfl rfl rfl).trans (congrArg not hg1)) ?_; refine O_mv rfl rfl ?_; exact hΦ
              · refine .inr ?_; intro s' R w' x Φ hs H hx hΦ; have e2 : x 2 = .bool (decide (x4 < 0)) := hx 2 (by decide) (by decide); simp only [e2]; refine wantK ((wanted_f rfl rfl rfl).trans (congrArg not hg1)) ?_; refine O_mv rfl rfl ?_; exact hΦ
              · refine .inr ?_; intro s' R w' x Φ hs H hx hΦ; have e2 : x 2 = .bool (decide (x4 < 0)) := hx 2 (by decide) (by decide); have e4 : x 4 = .slice A_p0 a0.length c_p0 := hx 4 (by decide) (by decide); simp only [e2, e4]; refine wantK ((wanted_f rfl rfl rfl).trans (congrArg not hg1)) ?_; refine O_len rfl Try.underlying22 rfl ?_; exact hΦ
              · refine .inr ?_; intro s' R w' x Φ hs H hx hΦ; have e2 : x 2 = .bool (decide (x4 < 0)) := hx 2 (by decide) (by decide); have e3 : x 3 = .int .i64 x4 := hx 3 (by decide) (by decide); have e5 : x 5 = .int .i64 (a0.length : Int) := hx 5 (by decide) (by decide); simp only [e2, e3, e5]; refine wantK ((wanted_f rfl rfl rfl).trans (congrArg not hg1)) ?_; refine O_bin rfl rfl rfl eqg_int r_geq ?_; exact hΦ
              · refine .inr ?_; intro s' R w' x Φ hs H hx hΦ; have e2 : x 2 = .bool (decide (x4 < 0)) := hx 2 (by decide) (by decide); have e6 : x 6 = .bool (decide (x4 ≥ (a0.length : Int))) := hx 6 (by decide) (by decide); simp only [e2, e6]; refine wantG rfl ?_; refine O_pickF rfl rfl hg1 rfl ?_; exact hΦ
              · refine .inr ?_; intro s' R w' x Φ hs H hx hΦ; have e7 : x 7 = .bool (decide (x4 ≥ (a0.length : Int))) := hx 7 (by decide) (by decide); simp only [e7]; refine wantG rfl ?_; refine O_mv rfl rfl ?_; exact hΦ
              · refine .inr ?_; intro s' R w' x Φ hs H hx hΦ; have e8 : x 8 = .bool (decide (x4 ≥ (a0.length : Int))) := hx 8 (by decide) (by decide); simp only [e8]; refine wantK ((wanted_f rfl rfl rfl).trans (congrArg not hg2)) ?_; refine O_mv rfl rfl ?_; exact hΦ
              · refine .inr ?_; intro s' R w' x Φ hs H hx hΦ; have e8 : x 8 = .bool (decide (x4 ≥ (a0.length : Int))) := hx 8 (by decide) (by decide); simp only [e8]; refine wantK ((wanted_f rfl rfl rfl).trans (congrArg not hg2)) ?_; refine O_mv rfl rfl ?_; exact hΦ
              · refine .inr ?_; intro s' R w' x Φ hs H hx hΦ; have e8 : x 8 = .bool (decide (x4 ≥ (a0.length : Int))) := hx 8 (by decide) (by decide); have e9 : x 9 = .map (some r10) := hx 9 (by decide) (by decide); have e10 : x 10 = .int .i64 x4 := hx 10 (by decide) (by decide); simp only [e8, e9, e10]; refine wantK ((wanted_f rfl rfl rfl).trans (congrArg not hg2)) ?_; refine F_get mk_I 0 85 _ _ rfl Try.underlying85 (k := x4) h0e1 rfl rfl H rfl (Try.zeroValue4 _) ?_; exact hΦ
              · refine .inr ?_; intro s' R w' x Φ hs H hx hΦ; have e8 : x 8 = .bool (decide (x4 ≥ (a0.length : Int))) := hx 8 (by decide) (by decide); have e11 : x 11 = .bool ((y4_p0 x4).getD false) := hx 11 (by decide) (by decide); simp only [e8, e11]; refine wantG rfl ?_; refine O_pickF rfl rfl hg2 rfl ?_; exact hΦ
              · refine .inr ?_; intro s' R w' x Φ hs H hx hΦ; have e12 : x 12 = .bool ((y4_p0 x4).getD false) := hx 12 (by decide) (by decide); simp only [e12]; refine wantG rfl ?_; refine O_mv rfl rfl ?_; exact hΦ
              · refine .inr ?_; intro s' R w' x Φ hs H hx hΦ; have e13 : x 13 = .bool ((y4_p0 x4).getD false) := hx 13 (by decide) (by decide); simp only [e13]; refine wantU ((wanted_f rfl rfl rfl).trans (congrArg not hg3)) ?_; exact hΦ
              · refine .inr ?_; intro s' R w' x Φ hs H hx hΦ; have e13 : x 13 = .bool ((y4_p0 x4).getD false) := hx 13 (by decide) (by decide); simp only [e13]; refine wantU ((wanted_f rfl rfl rfl).trans (congrArg not hg3)) ?_; exact hΦ
              · refine .inr ?_; intro s' R w' x Φ hs H hx hΦ; have e13 : x 13 = .bool ((y4_p0 x4).getD false) := hx 13 (by decide) (by decide); simp only [e13]; refine wantU ((wanted_f rfl rfl rfl).trans (congrArg not hg3)) ?_; exact hΦ
              · refine .inr ?_; intro s' R w' x Φ hs H hx hΦ; have e13 : x 13 = .bool ((y4_p0 x4).getD false) := hx 13 (by decide) (by decide); simp only [e13]; refine wantU ((wanted_f rfl rfl rfl).trans (congrArg not hg3)) ?_; exact hΦ
              · refine .inr ?_; intro s' R w' x Φ hs H hx hΦ; have e13 : x 13 = .bool ((y4_p0 x4).getD false) := hx 13 (by decide) (by decide); simp only [e13]; refine wantU ((wanted_f rfl rfl rfl).trans (congrArg not hg3)) ?_; exact hΦ
              · refine .inr ?_; intro s' R w' x Φ hs H hx hΦ; have e13 : x 13 = .bool ((y4_p0 x4).getD false) := hx 13 (by decide) (by decide); simp only [e13]; refine wantU ((wanted_f rfl rfl rfl).trans (congrArg not hg3)) ?_; exact hΦ
              · refine .inr ?_; intro s' R w' x Φ hs H hx hΦ; have e13 : x 13 = .bool ((y4_p0 x4).getD false) := hx 13 (by decide) (by decide); simp only [e13]; refine wantU ((wanted_f rfl rfl rfl).trans (congrArg not hg3)) ?_; exact hΦ
              · refine .inr ?_; intro s' R w' x Φ hs H hx hΦ; have e13 : x 13 = .bool ((y4_p0 x4).getD false) := hx 13 (by decide) (by decide); simp only [e13]; refine wantU ((wanted_f rfl rfl rfl).trans (congrArg not hg3)) ?_; exact hΦ
              · refine .inr ?_; intro s' R w' x Φ hs H hx hΦ; have e13 : x 13 = .bool ((y4_p0 x4).getD false) := hx 13 (by decide) (by decide); simp only [e13]; refine wantU ((wanted_f rfl rfl rfl).trans (congrArg not hg3)) ?_; exact hΦ
              · refine .inr ?_; intro s' R w' x Φ hs H hx hΦ; have e13 : x 13 = .bool ((y4_p0 x4).getD false) := hx 13 (by decide) (by decide); simp only [e13]; refine wantU ((wanted_f rfl rfl rfl).trans (congrArg not hg3)) ?_; exact hΦ
              · refine .inr ?_; intro s' R w' x Φ hs H hx hΦ; have e13 : x 13 = .bool ((y4_p0 x4).getD false) := hx 13 (by decide) (by decide); simp only [e13]; refine wantU ((wanted_f rfl rfl rfl).trans (congrArg not hg3)) ?_; exact hΦ
              · refine .inr ?_; intro s' R w' x Φ hs H hx hΦ; have e13 : x 13 = .bool ((y4_p0 x4).getD false) := hx 13 (by decide) (by decide); simp only [e13]; refine wantU ((wanted_f rfl rfl rfl).trans (congrArg not hg3)) ?_; exact hΦ
              · refine .inr ?_; intro s' R w' x Φ hs H hx hΦ; have e13 : x 13 = .bool ((y4_p0 x4).getD false) := hx 13 (by decide) (by decide); simp only [e13]; refine wantU ((wanted_f rfl rfl rfl).trans (congrArg not hg3)) ?_; exact hΦ
              · refine .inr ?_; intro s' R w' x Φ hs H hx hΦ; have e13 : x 13 = .bool ((y4_p0 x4).getD false) := hx 13 (by decide) (by decide); simp only [e13]; refine wantU ((wanted_f rfl rfl rfl).trans (congrArg not hg3)) ?_; exact hΦ
              · refine .inr ?_; intro s' R w' x Φ hs H hx hΦ; have e13 : x 13 = .bool ((y4_p0 x4).getD false) := hx 13 (by decide) (by decide); have e27 : x 27 = undef := hx 27 (by decide) (by decide); simp only [e13, e27]; refine wantG rfl ?_; refine O_pickT rfl rfl hg3 rfl ?_; exact hΦ
            · exact trivial
            · clear H
              intro w' x hS hx
              have H : Holds E s (mpF kcI vcB r10 y4_p0 :: pt br10 (.cells #[.map (some r_y4_c1_0), .map (some r_y4_c1_1)] 112 (0, 0)) :: mpO kcS kI s r_y4_c1_0 y4_c1_0 :: mpF kcS vcI r_y4_c1_1 y4_c1_1 :: L) w' := hS; clear hS
              have e0 : x 0 = .int .i64 x4 := hx 0 (by decide) (by decide)
              have e1 : x 1 = .bool (decide (x4 < 0)) := hx 1 (by decide) (by decide)
              have e2 : x 2 = .bool (decide (x4 < 0)) := hx 2 (by decide) (by decide)
              have e3 : x 3 = .int .i64 x4 := hx 3 (by decide) (by decide)
              have e4 : x 4 = .slice A_p0 a0.length c_p0 := hx 4 (by decide) (by decide)
              have e5 : x 5 = .int .i64 (a0.length : Int) := hx 5 (by decide) (by decide)
              have e6 : x 6 = .bool (decide (x4 ≥ (a0.length : Int))) := hx 6 (by decide) (by decide)
              have e7 : x 7 = .bool (decide (x4 ≥ (a0.length : Int))) := hx 7 (by decide) (by decide)
              have e8 : x 8 = .bool (decide (x4 ≥ (a0.length : Int))) := hx 8 (by decide) (by decide)
              have e9 : x 9 = .map (some r10) := hx 9 (by decide) (by decide)
              have e10 : x 10 = .int .i64 x4 := hx 10 (by decide) (by decide)
              have e11 : x 11 = .bool ((y4_p0 x4).getD false) := hx 11 (by decide) (by decide)
              have e12 : x 12 = .bool ((y4_p0 x4).getD false) := hx 12 (by decide) (by decide)
              have e13 : x 13 = .bool ((y4_p0 x4).getD false) := hx 13 (by decide) (by decide)
              have e14 : x 14 = undef := hx 14 (by decide) (by decide)
              have e15 : x 15 = undef := hx 15 (by decide) (by decide)
              have e16 : x 16 = undef := hx 16 (by decide) (by decide)
              have e17 : x 17 = undef := hx 17 (by decide) (by decide)
              have e18 : x 18 = undef := hx 18 (by decide) (by decide)
              have e19 : x 19 = undef := hx 19 (by decide) (by decide)
              have e20 : x 20 = undef := hx 20 (by decide) (by decide)
              have e21 : x 21 = undef := hx 21 (by decide) (by decide)
              have e22 : x 22 = undef := hx 22 (by decide) (by decide)
              have e23 : x 23 = undef := hx 23 (by decide) (by decide)
              have e24 : x 24 = undef := hx 24 (by decide) (by decide)
              have e25 : x 25 = undef := hx 25 (by decide) (by decide)
              have e26 : x 26 = undef := hx 26 (by decide) (by decide)
              have e27 : x 27 = undef := hx 27 (by decide) (by decide)
              have e28 : x 28 = .bool true := hx 28 (by decide) (by decide)
              simp only [e0, e1, e2, e3, e4, e5, e6, e7, e8, e9, e10, e11, e12, e13, e14, e15, e16, e17, e18, e19, e20, e21, e22, e23, e24, e25, e26, e27, e28]
              clear hx
              refine list_end ?_
              refine then_norm ?_
              refine wp_cond_true rfl ?_
              refine wp_seq ?_
              refine wp_region_lit ?_
              apply seq_op (V := .bool false) rfl
              · intro Φ hΦ; refine O_as rfl rfl ?_; exact hΦ
              (try simp only [Act.put, List.setIfInBounds_toArray, List.set_cons_succ, List.set_cons_zero])
              refine list_end ?_
              refine then_norm ?_
              refine wp_ret ?_
              refine then_ret ?_
              refine block_ret ?_
              refine then_ret ?_
              refine then_ret ?_
              refine block_ret ?_
              refine then_ret ?_
              have hq4 := Option.some.inj hq4
              subst hq4
              (try dsimp only at hm)
              have hm := Option.some.inj hm
              subst hm
              replace H := H.dropAt 3 rfl; simp only [List.eraseIdx_cons_succ, List.eraseIdx_cons_zero] at H
              replace H := H.dropAt 2 rfl; simp only [List.eraseIdx_cons_succ, List.eraseIdx_cons_zero] at H
              replace H := H.dropAt 1 rfl; simp only [List.eraseIdx_cons_succ, List.eraseIdx_cons_zero] at H
              replace H := H.dropAt 0 rfl; simp only [List.eraseIdx_cons_succ, List.eraseIdx_cons_zero] at H
              exact ret1 rfl (rv_tmp rfl) rfl ⟨rfl, H⟩
          · replace hq4 := ifF hg3 hq4
            obtain ⟨u1, gx1, hq4⟩ := bs hq4
            obtain ⟨kk1, gk1, gl1, gd1⟩ := rdI_some gx1
            obtain ⟨be2, oe2, A4e2, c4e2, rfl, hCe2, h0e2, h1e2, h2e2, h3e2, h4e2⟩ := kT_el h_p0 gd1
            obtain ⟨u38601, gx38601, hq4⟩ := bs hq4
            refine wp_draw_P (k := 29) (sz := 49) [26, 27, 28] [[false, false, false], [true, false, false], [true, true, false], [true, true, true]] [(0, 0, 1), (1, 1, 2), (2, 2, 3)] [.int .i64 x4, .bool (decide (x4 < 0)), .bool (decide (x4 < 0)), .int .i64 x4, .slice (some ⟨be2, oe2, none⟩) a0.length c_p0, .int .i64 (a0.length : Int), .bool (decide (x4 ≥ (a0.length : Int))), .bool (decide (x4 ≥ (a0.length : Int))), .bool (decide (x4 ≥ (a0.length : Int))), .map (some r10), .int .i64 x4, .bool ((y4_p0 x4).getD false), .bool ((y4_p0 x4).getD false), .bool ((y4_p0 x4).getD false), .pointer (some ⟨br10, 0, none⟩), .slice (some ⟨be2, oe2, none⟩) a0.length c_p0, .int .i64 x4, .pointer (some ⟨be2, oe2 + kk1 * 5, none⟩), .pointer (some ⟨be2, oe2 + kk1 * 5 + 4, none⟩), .slice A4e2 u1.ops.length c4e2, .slice (some ⟨be2, oe2, none⟩) a0.length c_p0, .int .i64 x4, .pointer (some ⟨be2, oe2 + kk1 * 5, none⟩), .pointer (some ⟨be2, oe2 + kk1 * 5 + 1, none⟩), .int .i64 u1.state, .bool (u1.state == 3), undef, undef, undef] [mpF kcI vcB r10 y4_p0] [fun w x => ∃ (rr38601o0_lists : Nat) (rr38601o0_regs : Nat), x 26 = .bool u38601.1 ∧ Holds E s (pt br10 (.cells #[.map (some rr38601o0_lists), .map (some rr38601o0_regs)] 112 (0, 0)) :: mpO kcS kI s rr38601o0_lists u38601.2.lists :: mpF kcS vcI rr38601o0_regs u38601.2.regs :: mpF kcI vcB r10 y4_p0 :: L) w, fun w x => ∃ (rr38601o0_lists : Nat) (rr38601o0_regs : Nat), x 26 = .bool u38601.1 ∧ x 27 = .bool (!u38601.1) ∧ Holds E s (pt br10 (.cells #[.map (some rr38601o0_lists), .map (some rr38601o0_regs)] 112 (0, 0)) :: mpO kcS kI s rr38601o0_lists u38601.2.lists :: mpF kcS vcI rr38601o0_regs u38601.2.regs :: mpF kcI vcB r10 y4_p0 :: L) w, fun w x => ∃ (rr38601o0_lists : Nat) (rr38601o0_regs : Nat), x 26 = .bool u38601.1 ∧ x 27 = .bool (!u38601.1) ∧ x 28 = .bool (!u38601.1) ∧ Holds E s (pt br10 (.cells #[.map (some rr38601o0_lists), .map (some rr38601o0_regs)] 112 (0, 0)) :: mpO kcS kI s rr38601o0_lists u38601.2.lists :: mpF kcS vcI rr38601o0_regs u38601.2.regs :: mpF kcI vcB r10 y4_p0 :: L) w] mixed (by simp) rfl (by kernel_rfl) (by kernel_rfl) (by kernel_rfl) (by simp) rfl H (by simp only [List.take_succ_cons, List.take_zero]; exact rfl) (by simp only [List.drop_succ_cons, List.drop_zero]; exact rfl)
              (fun x => by simp only [ov, Act.put, List.setIfInBounds_toArray, List.set_cons_succ, List.set_cons_zero, Nat.zero_add, Nat.reduceAdd]; exact rfl) ?_ ?_ ?_ ?_
            · refine ⟨?_, ?_, ?_, ?_, trivial⟩
              · intro w x hS; have H : Holds E s (mpF kcI vcB r10 y4_p0 :: pt br10 (.cells #[.map (some r_y4_c1_0), .map (some r_y4_c1_1)] 112 (0, 0)) :: mpO kcS kI s r_y4_c1_0 y4_c1_0 :: mpF kcS vcI r_y4_c1_1 y4_c1_1 :: L) w := hS; exact ⟨_, _, Sub.refl _, H⟩
              · intro w x hS; obtain ⟨rr38601o0_lists, rr38601o0_regs, e26, H⟩ := hS; replace H := H.front 3 rfl; simp only [List.eraseIdx_cons_succ, List.eraseIdx_cons_zero] at H; exact ⟨_, _, Sub.refl _, H⟩
              · intro w x hS; obtain ⟨rr38601o0_lists, rr38601o0_regs, e26, e27, H⟩ := hS; replace H := H.front 3 rfl; simp only [List.eraseIdx_cons_succ, List.eraseIdx_cons_zero] at H; exact ⟨_, _, Sub.refl _, H⟩
              · intro w x hS; obtain ⟨rr38601o0_lists, rr38601o0_regs, e26, e27, e28, H⟩ := hS; replace H := H.front 3 rfl; simp only [List.eraseIdx_cons_succ, List.eraseIdx_cons_zero] at H; exact ⟨_, _, Sub.refl _, H⟩
            · refine ⟨?_, ?_, ?_, ?_, ?_, ?_, ?_, ?_, ?_, ?_, ?_, ?_, ?_, ?_, ?_, ?_, ?_, ?_, ?_, ?_, ?_, ?_, ?_, ?_, ?_, ?_, ?_, ?_, ?_, trivial⟩
              · refine .inr ?_; intro s' R w' x Φ hs H hx hΦ; refine wantG rfl ?_; refine O_mv rfl rfl ?_; exact hΦ
              · refine .inr ?_; intro s' R w' x Φ hs H hx hΦ; have e0 : x 0 = .int .i64 x4 := hx 0 (by decide) (by decide); simp only [e0]; refine wantG rfl ?_; refine O_bin rfl rfl rfl eqg_int r_lss ?_; exact hΦ
              · refine .inr ?_; intro s' R w' x Φ hs H hx hΦ; have e1 : x 1 = .bool (decide (x4 < 0)) := hx 1 (by decide) (by decide); simp only [e1]; refine wantG rfl ?_; refine O_mv rfl rfl ?_; exact hΦ
              · refine .inr ?_; intro s' R w' x Φ hs H hx hΦ; have e2 : x 2 = .bool (decide (x4 < 0)) := hx 2 (by decide) (by decide); simp only [e2]; refine wantK ((wanted_f rfl rfl rfl).trans (congrArg not hg1)) ?_; refine O_mv rfl rfl ?_; exact hΦ
              · refine .inr ?_; intro s' R w' x Φ hs H hx hΦ; have e2 : x 2 = .bool (decide (x4 < 0)) := hx 2 (by decide) (by decide); simp only [e2]; refine wantK ((wanted_f rfl rfl rfl).trans (congrArg not hg1)) ?_; refine O_mv rfl rfl ?_; exact hΦ
              · refine .inr ?_; intro s' R w' x Φ hs H hx hΦ; have e2 : x 2 = .bool (decide (x4 < 0)) := hx 2 (by decide) (by decide); have e4 : x 4 = .slice (some ⟨be2, oe2, none⟩) a0.length c_p0 := hx 4 (by decide) (by decide); simp only [e2, e4]; refine wantK ((wanted_f rfl rfl rfl).trans (congrArg not hg1)) ?_; refine O_len rfl Try.underlying22 rfl ?_; exact hΦ
              · refine .inr ?_; intro s' R w' x Φ hs H hx hΦ; have e2 : x 2 = .bool (decide (x4 < 0)) := hx 2 (by decide) (by decide); have e3 : x 3 = .int .i64 x4 := hx 3 (by decide) (by decide); have e5 : x 5 = .int .i64 (a0.length : Int) := hx 5 (by decide) (by decide); simp only [e2, e3, e5]; refine wantK ((wanted_f rfl rfl rfl).trans (congrArg not hg1)) ?_; refine O_bin rfl rfl rfl eqg_int r_geq ?_; exact hΦ
              · refine .inr ?_; intro s' R w' x Φ hs H hx hΦ; have e2 : x 2 = .bool (decide (x4 < 0)) := hx 2 (by decide) (by decide); have e6 : x 6 = .bool (decide (x4 ≥ (a0.length : Int))) := hx 6 (by decide) (by decide); simp only [e2, e6]; refine wantG rfl ?_; refine O_pickF rfl rfl hg1 rfl ?_; exact hΦ
              · refine .inr ?_; intro s' R w' x Φ hs H hx hΦ; have e7 : x 7 = .bool (decide (x4 ≥ (a0.length : Int))) := hx 7 (by decide) (by decide); simp only [e7]; refine wantG rfl ?_; refine O_mv rfl rfl ?_; exact hΦ
              · refine .inr ?_; intro s' R w' x Φ hs H hx hΦ; have e8 : x 8 = .bool (decide (x4 ≥ (a0.length : Int))) := hx 8 (by decide) (by decide); simp only [e8]; refine wantK ((wanted_f rfl rfl rfl).trans (congrArg not hg2)) ?_; refine O_mv rfl rfl ?_; exact hΦ
              · refine .inr ?_; intro s' R w' x Φ hs H hx hΦ; have e8 : x 8 = .bool (decide (x4 ≥ (a0.length : Int))) := hx 8 (by decide) (by decide); simp only [e8]; refine wantK ((wanted_f rfl rfl rfl).trans (congrArg not hg2)) ?_; refine O_mv rfl rfl ?_; exact hΦ
              · refine .inr ?_; intro s' R w' x Φ hs H hx hΦ; have e8 : x 8 = .bool (decide (x4 ≥ (a0.length : Int))) := hx 8 (by decide) (by decide); have e9 : x 9 = .map (some r10) := hx 9 (by decide) (by decide); have e10 : x 10 = .int .i64 x4 := hx 10 (by decide) (by decide); simp only [e8, e9, e10]; refine wantK ((wanted_f rfl rfl rfl).trans (congrArg not hg2)) ?_; refine F_get mk_I 0 85 _ _ rfl Try.underlying85 (k := x4) h0e1 rfl rfl H rfl (Try.zeroValue4 _) ?_; exact hΦ
              · refine .inr ?_; intro s' R w' x Φ hs H hx hΦ; have e8 : x 8 = .bool (decide (x4 ≥ (a0.length : Int))) := hx 8 (by decide) (by decide); have e11 : x 11 = .bool ((y4_p0 x4).getD false) := hx 11 (by decide) (by decide); simp only [e8, e11]; refine wantG rfl ?_; refine O_pickF rfl rfl hg2 rfl ?_; exact hΦ
              · refine .inr ?_; intro s' R w' x Φ hs H hx hΦ; have e12 : x 12 = .bool ((y4_p0 x4).getD false) := hx 12 (by decide) (by decide); simp only [e12]; refine wantG rfl ?_; refine O_mv rfl rfl ?_; exact hΦ
              · refine .inr ?_; intro s' R w' x Φ hs H hx hΦ; have e13 : x 13 = .bool ((y4_p0 x4).getD false) := hx 13 (by decide) (by decide); simp only [e13]; refine wantK ((wanted_f rfl rfl rfl).trans (congrArg not hg3)) ?_; refine O_mv rfl rfl ?_; exact hΦ
              · refine .inr ?_; intro s' R w' x Φ hs H hx hΦ; have e13 : x 13 = .bool ((y4_p0 x4).getD false) := hx 13 (by decide) (by decide); simp only [e13]; refine wantK ((wanted_f rfl rfl rfl).trans (congrArg not hg3)) ?_; refine O_mv rfl rfl ?_; exact hΦ
              · refine .inr ?_; intro s' R w' x Φ hs H hx hΦ; have e13 : x 13 = .bool ((y4_p0 x4).getD false) := hx 13 (by decide) (by decide); simp only [e13]; refine wantK ((wanted_f rfl rfl rfl).trans (congrArg not hg3)) ?_; refine O_mv rfl rfl ?_; exact hΦ
              · refine .inr ?_; intro s' R w' x Φ hs H hx hΦ; have e13 : x 13 = .bool ((y4_p0 x4).getD false) := hx 13 (by decide) (by decide); have e15 : x 15 = .slice (some ⟨be2, oe2, none⟩) a0.length c_p0 := hx 15 (by decide) (by decide); have e16 : x 16 = .int .i64 x4 := hx 16 (by decide) (by decide); simp only [e13, e15, e16]; refine wantK ((wanted_f rfl rfl rfl).trans (congrArg not hg3)) ?_; refine O_ix rfl Try.underlying22 (Try.sizeOf30 _) rfl rfl gk1 gl1 ?_; exact hΦ
              · refine .inr ?_; intro s' R w' x Φ hs H hx hΦ; have e13 : x 13 = .bool ((y4_p0 x4).getD false) := hx 13 (by decide) (by decide); have e17 : x 17 = .pointer (some ⟨be2, oe2 + kk1 * 5, none⟩) := hx 17 (by decide) (by decide); simp only [e13, e17]; refine wantK ((wanted_f rfl rfl rfl).trans (congrArg not hg3)) ?_; refine O_fld rfl Try.underlying30 rfl (Try.sizeOf28 _) rfl ?_; exact hΦ
              · refine .inr ?_; intro s' R w' x Φ hs H hx hΦ; have e13 : x 13 = .bool ((y4_p0 x4).getD false) := hx 13 (by decide) (by decide); have e18 : x 18 = .pointer (some ⟨be2, oe2 + kk1 * 5 + 4, none⟩) := hx 18 (by decide) (by decide); simp only [e13, e18]; refine wantK ((wanted_f rfl rfl rfl).trans (congrArg not hg3)) ?_; refine G_s1 _ _ rfl (Try.isAgg28 _) rfl H (hCe2.mono hs) 4 rfl rfl ?_; exact hΦ
              · refine .inr ?_; intro s' R w' x Φ hs H hx hΦ; have e13 : x 13 = .bool ((y4_p0 x4).getD false) := hx 13 (by decide) (by decide); simp only [e13]; refine wantK ((wanted_f rfl rfl rfl).trans (congrArg not hg3)) ?_; refine O_mv rfl rfl ?_; exact hΦ
              · refine .inr ?_; intro s' R w' x Φ hs H hx hΦ; have e13 : x 13 = .bool ((y4_p0 x4).getD false) := hx 13 (by decide) (by decide); simp only [e13]; refine wantK ((wanted_f rfl rfl rfl).trans (congrArg not hg3)) ?_; refine O_mv rfl rfl ?_; exact hΦ
              · refine .inr ?_; intro s' R w' x Φ hs H hx hΦ; have e13 : x 13 = .bool ((y4_p0 x4).getD false) := hx 13 (by decide) (by decide); have e20 : x 20 = .slice (some ⟨be2, oe2, none⟩) a0.length c_p0 := hx 20 (by decide) (by decide); have e21 : x 21 = .int .i64 x4 := hx 21 (by decide) (by decide); simp only [e13, e20, e21]; refine wantK ((wanted_f rfl rfl rfl).trans (congrArg not hg3)) ?_; refine O_ix rfl Try.underlying22 (Try.sizeOf30 _) rfl rfl gk1 gl1 ?_; exact hΦ
              · refine .inr ?_; intro s' R w' x Φ hs H hx hΦ; have e13 : x 13 = .bool ((y4_p0 x4).getD false) := hx 13 (by decide) (by decide); have e22 : x 22 = .pointer (some ⟨be2, oe2 + kk1 * 5, none⟩) := hx 22 (by decide) (by decide); simp only [e13, e22]; refine wantK ((wanted_f rfl rfl rfl).trans (congrArg not hg3)) ?_; refine O_fld rfl Try.underlying30 rfl (Try.sizeOf3 _) rfl ?_; exact hΦ
              · refine .inr ?_; intro s' R w' x Φ hs H hx hΦ; have e13 : x 13 = .bool ((y4_p0 x4).getD false) := hx 13 (by decide) (by decide); have e23 : x 23 = .pointer (some ⟨be2, oe2 + kk1 * 5 + 1, none⟩) := hx 23 (by decide) (by decide); simp only [e13, e23]; refine wantK ((wanted_f rfl rfl rfl).trans (congrArg not hg3)) ?_; refine G_s1 _ _ rfl (Try.isAgg3 _) rfl H (hCe2.mono hs) 1 rfl rfl ?_; exact hΦ
              · refine .inr ?_; intro s' R w' x Φ hs H hx hΦ; have e13 : x 13 = .bool ((y4_p0 x4).getD false) := hx 13 (by decide) (by decide); have e24 : x 24 = .int .i64 u1.state := hx 24 (by decide) (by decide); simp only [e13, e24]; refine wantK ((wanted_f rfl rfl rfl).trans (congrArg not hg3)) ?_; refine O_bin rfl rfl rfl eqg_int r_eql ?_; exact hΦ
              · exact .inl (by decide)
              · exact .inl (by decide)
              · exact .inl (by decide)
            · refine ⟨?_, ?_, ?_, trivial⟩
              · intro c o S0 S1 hc ho h0 h1; obtain rfl := Option.some.inj hc; obtain rfl := Option.some.inj ho; obtain rfl := Option.some.inj h0; obtain rfl := Option.some.inj h1; intro w' x Φ hS hx hΦ
                have H : Holds E s (mpF kcI vcB r10 y4_p0 :: pt br10 (.cells #[.map (some r_y4_c1_0), .map (some r_y4_c1_1)] 112 (0, 0)) :: mpO kcS kI s r_y4_c1_0 y4_c1_0 :: mpF kcS vcI r_y4_c1_1 y4_c1_1 :: L) w' := hS; clear hS
                have e13 : x 13 = .bool ((y4_p0 x4).getD false) := hx 13 (by decide) (by decide)
                have e14 : x 14 = .pointer (some ⟨br10, 0, none⟩) := hx 14 (by decide) (by decide)
                have e19 : x 19 = .slice A4e2 u1.ops.length c4e2 := hx 19 (by decide) (by decide)
                have e25 : x 25 = .bool (u1.state == 3) := hx 25 (by decide) (by decide)
                simp only [e13, e14, e19, e25]
                refine wantK ((wanted_f rfl rfl rfl).trans (congrArg not hg3)) ?_
                replace H := H.front 3 rfl; simp only [List.eraseIdx_cons_succ, List.eraseIdx_cons_zero] at H
                replace H := H.front 3 rfl; simp only [List.eraseIdx_cons_succ, List.eraseIdx_cons_zero] at H
                replace H := H.front 3 rfl; simp only [List.eraseIdx_cons_succ, List.eraseIdx_cons_zero] at H
                refine O_call3 rfl Try.func26 rfl rfl rfl rfl rfl ?_; refine (model_State_Apply_w (a0 := (⟨y4_c1_0, y4_c1_1⟩ : MSt)) (a1 := u1.ops) (h_p1 := h4e2) (a2 := u1.state == 3) (hm := gx38601) (H := H)).mono ?_
                clear H
                rintro e w1 ⟨rr38601o0_lists, rr38601o0_regs, rfl, H⟩; refine ⟨_, rfl, ?_⟩
                exact hΦ _ _ ⟨rr38601o0_lists, rr38601o0_regs, updV_same, H⟩
              · intro c o S0 S1 hc ho h0 h1; obtain rfl := Option.some.inj hc; obtain rfl := Option.some.inj ho; obtain rfl := Option.some.inj h0; obtain rfl := Option.some.inj h1; intro w' x Φ hS hx hΦ
                obtain ⟨rr38601o0_lists, rr38601o0_regs, e26, H⟩ := hS
                have e13 : x 13 = .bool ((y4_p0 x4).getD false) := hx 13 (by decide) (by decide)
                simp only [e13, e26]
                refine wantK ((wanted_f rfl rfl rfl).trans (congrArg not hg3)) ?_
                refine O_not rfl rfl ?_
                exact hΦ _ _ ⟨rr38601o0_lists, rr38601o0_regs, (updV_ne (by decide)).trans e26, updV_same, H⟩
              · intro c o S0 S1 hc ho h0 h1; obtain rfl := Option.some.inj hc; obtain rfl := Option.some.inj ho; obtain rfl := Option.some.inj h0; obtain rfl := Option.some.inj h1; intro w' x Φ hS hx hΦ
                obtain ⟨rr38601o0_lists, rr38601o0_regs, e26, e27, H⟩ := hS
                have e13 : x 13 = .bool ((y4_p0 x4).getD false) := hx 13 (by decide) (by decide)
                simp only [e13, e27]
                refine wantG rfl ?_
                refine O_pickF rfl rfl hg3 rfl ?_
                exact hΦ _ _ ⟨rr38601o0_lists, rr38601o0_regs, (updV_ne (by decide)).trans e26, (updV_ne (by decide)).trans e27, updV_same, H⟩
            · clear H
              intro w' x hS hx
              obtain ⟨rr38601o0_lists, rr38601o0_regs, e26, e27, e28, H⟩ := hS
              have e0 : x 0 = .int .i64 x4 := hx 0 (by decide) (by decide)
              have e1 : x 1 = .bool (decide (x4 < 0)) := hx 1 (by decide) (by decide)
              have e2 : x 2 = .bool (decide (x4 < 0)) := hx 2 (by decide) (by decide)
              have e3 : x 3 = .int .i64 x4 := hx 3 (by decide) (by decide)
              have e4 : x 4 = .slice (some ⟨be2, oe2, none⟩) a0.length c_p0 := hx 4 (by decide) (by decide)
              have e5 : x 5 = .int .i64 (a0.length : Int) := hx 5 (by decide) (by decide)
              have e6 : x 6 = .bool (decide (x4 ≥ (a0.length : Int))) := hx 6 (by decide) (by decide)
              have e7 : x 7 = .bool (decide (x4 ≥ (a0.length : Int))) := hx 7 (by decide) (by decide)
              have e8 : x 8 = .bool (decide (x4 ≥ (a0.length : Int))) := hx 8 (by decide) (by decide)
              have e9 : x 9 = .map (some r10) := hx 9 (by decide) (by decide)
              have e10 : x 10 = .int .i64 x4 := hx 10 (by decide) (by decide)
              have e11 : x 11 = .bool ((y4_p0 x4).getD false) := hx 11 (by decide) (by decide)
              have e12 : x 12 = .bool ((y4_p0 x4).getD false) := hx 12 (by decide) (by decide)
              have e13 : x 13 = .bool ((y4_p0 x4).getD false) := hx 13 (by decide) (by decide)
              have e14 : x 14 = .pointer (some ⟨br10, 0, none⟩) := hx 14 (by decide) (by decide)
              have e15 : x 15 = .slice (some ⟨be2, oe2, none⟩) a0.length c_p0 := hx 15 (by decide) (by decide)
              have e16 : x 16 = .int .i64 x4 := hx 16 (by decide) (by decide)
              have e17 : x 17 = .pointer (some ⟨be2, oe2 + kk1 * 5, none⟩) := hx 17 (by decide) (by decide)
              have e18 : x 18 = .pointer (some ⟨be2, oe2 + kk1 * 5 + 4, none⟩) := hx 18 (by decide) (by decide)
              have e19 : x 19 = .slice A4e2 u1.ops.length c4e2 := hx 19 (by decide) (by decide)
              have e20 : x 20 = .slice (some ⟨be2, oe2, none⟩) a0.length c_p0 := hx 20 (by decide) (by decide)
              have e21 : x 21 = .int .i64 x4 := hx 21 (by decide) (by decide)
              have e22 : x 22 = .pointer (some ⟨be2, oe2 + kk1 * 5, none⟩) := hx 22 (by decide) (by decide)
              have e23 : x 23 = .pointer (some ⟨be2, oe2 + kk1 * 5 + 1, none⟩) := hx 23 (by decide) (by decide)
              have e24 : x 24 = .int .i64 u1.state := hx 24 (by decide) (by decide)
              have e25 : x 25 = .bool (u1.state == 3) := hx 25 (by decide) (by decide)
              simp only [e0, e1, e2, e3, e4, e5, e6, e7, e8, e9, e10, e11, e12, e13, e14, e15, e16, e17, e18, e19, e20, e21, e22, e23, e24, e25, e26, e27, e28]
              clear hx
              refine list_end ?_
              refine then_norm ?_
              refine wp_cond_split rfl (fun hc => ?_) (fun hc => ?_)
              · have hc2 := hc
                clear hc
                replace hq4 := ifT hc2 hq4
                refine wp_seq ?_
                refine wp_region_lit ?_
                apply seq_op (V := .bool false) rfl
                · intro Φ hΦ; refine O_as rfl rfl ?_; exact hΦ
                (try simp only [Act.put, List.setIfInBounds_toArray, List.set_cons_succ, List.set_cons_zero])
                refine list_end ?_
                refine then_norm ?_
                refine wp_ret ?_
                refine then_ret ?_
                refine block_ret ?_
                refine then_ret ?_
                refine then_ret ?_
                refine block_ret ?_
                refine then_ret ?_
                have hq4 := Option.some.inj hq4
                subst hq4
                (try dsimp only at hm)
                have hm := Option.some.inj hm
                subst hm
                replace H := H.dropAt 3 rfl; simp only [List.eraseIdx_cons_succ, List.eraseIdx_cons_zero] at H
                replace H := H.dropAt 2 rfl; simp only [List.eraseIdx_cons_succ, List.eraseIdx_cons_zero] at H
                replace H := H.dropAt 1 rfl; simp only [List.eraseIdx_cons_succ, List.eraseIdx_cons_zero] at H
                replace H := H.dropAt 0 rfl; simp only [List.eraseIdx_cons_succ, List.eraseIdx_cons_zero] at H
                exact ret1 rfl (rv_tmp rfl) rfl ⟨rfl, H⟩
              · have hc2 := hc
                clear hc
                replace hq4 := ifF hc2 hq4
                refine wp_skip ?_
                refine then_norm ?_
                refine wp_region_lit ?_
                apply seq_op (V := .map (some r10)) rfl
                · intro Φ hΦ; refine O_mv rfl rfl ?_; exact hΦ
                (try simp only [Act.put, List.setIfInBounds_toArray, List.set_cons_succ, List.set_cons_zero])
                apply seq_op (V := .int .i64 x4) rfl
                · intro Φ hΦ; refine O_mv rfl rfl ?_; exact hΦ
                (try simp only [Act.put, List.setIfInBounds_toArray, List.set_cons_succ, List.set_cons_zero])
                refine OpG.list rfl ?_; refine F_put mk_I 3 85 _ _ _ rfl Try.underlying85 (k := x4) (v := true) h0e1 trivial rfl rfl rfl H rfl ?_; clear H; intro w1 H; simp only [List.set_cons_succ, List.set_cons_zero] at H
                (try simp only [Act.put, List.setIfInBounds_toArray, List.set_cons_succ, List.set_cons_zero])
                refine list_end ?_
                refine block_norm ?_
                refine then_norm ?_
                refine wp_region_lit ?_
                apply seq_op (V := .int .i64 (IntKind.i64.wrap ((k4 : Int) + 1))) rfl
                · intro Φ hΦ; refine O_bin rfl rfl rfl eqg_int r_add ?_; exact hΦ
                (try simp only [Act.put, List.setIfInBounds_toArray, List.set_cons_succ, List.set_cons_zero])
                apply seq_op (V := .int .i64 (IntKind.i64.wrap ((k4 : Int) + 1))) rfl
                · intro Φ hΦ; refine O_mv rfl rfl ?_; exact hΦ
                (try simp only [Act.put, List.setIfInBounds_toArray, List.set_cons_succ, List.set_cons_zero])
                refine list_end ?_
                refine then_norm ?_
                replace H := H.front 2 rfl; simp only [List.eraseIdx_cons_succ, List.eraseIdx_cons_zero] at H
                replace H := H.front 2 rfl; simp only [List.eraseIdx_cons_succ, List.eraseIdx_cons_zero] at H
                replace H := H.front 2 rfl; simp only [List.eraseIdx_cons_succ, List.eraseIdx_cons_zero] at H
                replace H := H.front 3 rfl; simp only [List.eraseIdx_cons_succ, List.eraseIdx_cons_zero] at H
                refine ⟨⟨⟨rfl, rfl, rfl, rfl, rfl, rfl, rfl, rfl, rfl, rfl, rfl, rfl⟩, rfl⟩, ⟨k4 + 1, _, (fset y4_p0 x4 true), u38601.2.lists, rr38601o0_lists, u38601.2.regs, rr38601o0_regs, hd4'', wrap_succ hl4 hn4, hq4, H⟩, ?_⟩
                exact meas_succ hl4 hn4
    · have hc1 := hc
      clear hc
      obtain rfl := rng_f hd4 hc1
      rw [model_Replay_l4] at hq4
      refine wp_exit ?_
      refine then_exit ?_
      refine then_exit ?_
      have hq4 := Option.some.inj hq4
      subst hq4
      (try dsimp only at hm)
      refine block_exit ?_
      refine then_norm ?_
      refine wp_seq ?_
      refine wp_region_lit ?_
      apply seq_op (V := .bool true) rfl
      · intro Φ hΦ; refine O_as rfl rfl ?_; exact hΦ
      (try simp only [Act.put, List.setIfInBounds_toArray, List.set_cons_succ, List.set_cons_zero])
      refine list_end ?_
      refine then_norm ?_
      refine wp_ret ?_
      have hm := Option.some.inj hm
      subst hm
      replace H := H.dropAt 3 rfl; simp only [List.eraseIdx_cons_succ, List.eraseIdx_cons_zero] at H
      replace H := H.dropAt 2 rfl; simp only [List.eraseIdx_cons_succ, List.eraseIdx_cons_zero] at H
      replace H := H.dropAt 1 rfl; simp only [List.eraseIdx_cons_succ, List.eraseIdx_cons_zero] at H
      replace H := H.dropAt 0 rfl; simp only [List.eraseIdx_cons_succ, List.eraseIdx_cons_zero] at H
      exact ret1 rfl (rv_tmp rfl) rfl ⟨rfl, H⟩
end Go.Proofs.Ytemdmpgekegfhaa
