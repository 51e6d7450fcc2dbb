/- Walks, printed by fx.py: part 2. -/
import Derived.Test.YtemdmpgekegfhaaDoorMob1
namespace Go.Proofs.YtemdmpgekegfhaaDoor
open Go.RowKit
set_option linter.all false
set_option maxRecDepth 10000
def model_State_Apply_l6 (a2 : Bool) (a0 : MSt) : Nat → List Op' → (ByteArray → Option (List Int)) → (ByteArray → Option Int) → Option (((Bool × MSt) ⊕ ((ByteArray → Option (List Int)) × (ByteArray → Option Int))))
  | k6, [] , y6_c4_0, y6_c4_1 => some (.inr (y6_c4_0, y6_c4_1))
  | k6, x6 :: r6, y6_c4_0, y6_c4_1 => if (!a2) = true then ((model_State_right_f (⟨y6_c4_0, y6_c4_1⟩ : MSt) x6).bind fun u1 => if (!u1) = true then (some (.inl (false, a0))) else (if ((decide (x6.kind > 0)) && (decide (x6.kind < 5))) = true then (if (x6.kind == 0) = true then (model_State_Apply_l6 a2 a0 (k6 + 1) r6 y6_c4_0 y6_c4_1) else (if (x6.kind == 1) = true then ((model_State_append_f (⟨y6_c4_0, y6_c4_1⟩ : MSt) x6).bind fun u2 => model_State_Apply_l6 a2 a0 (k6 + 1) r6 u2.lists u2.regs) else (if (x6.kind == 2) = true then (model_State_Apply_l6 a2 a0 (k6 + 1) r6 y6_c4_0 y6_c4_1) else (if (x6.kind == 3) = true then (model_State_Apply_l6 a2 a0 (k6 + 1) r6 ((model_State_write_f (⟨y6_c4_0, y6_c4_1⟩ : MSt) x6).lists) ((model_State_write_f (⟨y6_c4_0, y6_c4_1⟩ : MSt) x6).regs)) else (if (x6.kind == 4) = true then (model_State_Apply_l6 a2 a0 (k6 + 1) r6 y6_c4_0 y6_c4_1) else (none)))))) else (model_State_Apply_l6 a2 a0 (k6 + 1) r6 y6_c4_0 y6_c4_1))) else (if ((decide (x6.kind > 0)) && (decide (x6.kind < 5))) = true then (if (x6.kind == 0) = true then (model_State_Apply_l6 a2 a0 (k6 + 1) r6 y6_c4_0 y6_c4_1) else (if (x6.kind == 1) = true then ((model_State_append_f (⟨y6_c4_0, y6_c4_1⟩ : MSt) x6).bind fun u1 => model_State_Apply_l6 a2 a0 (k6 + 1) r6 u1.lists u1.regs) else (if (x6.kind == 2) = true then (model_State_Apply_l6 a2 a0 (k6 + 1) r6 y6_c4_0 y6_c4_1) else (if (x6.kind == 3) = true then (model_State_Apply_l6 a2 a0 (k6 + 1) r6 ((model_State_write_f (⟨y6_c4_0, y6_c4_1⟩ : MSt) x6).lists) ((model_State_write_f (⟨y6_c4_0, y6_c4_1⟩ : MSt) x6).regs)) else (if (x6.kind == 4) = true then (model_State_Apply_l6 a2 a0 (k6 + 1) r6 y6_c4_0 y6_c4_1) else (none)))))) else (model_State_Apply_l6 a2 a0 (k6 + 1) r6 y6_c4_0 y6_c4_1))

def model_State_Apply_f (a0 : MSt) (a1 : List Op') (a2 : Bool) : Option (Bool × MSt) := (model_State_Apply_l6 a2 a0 0 a1 ((model_State_Copy_f a0).lists) ((model_State_Copy_f a0).regs)).bind fun | .inl z6_r => (some z6_r) | .inr (z6_c4_0, z6_c4_1) => (some (true, (⟨z6_c4_0, z6_c4_1⟩ : MSt)))

set_option maxHeartbeats 4000000 in
theorem model_State_Apply_w {E : World} {s : SH} {L : List HP} {w : World} {a0 : MSt} {a1 : List Op'} {a2 : Bool} {b_p0 : Nat} {r_p0_lists : Nat} {r_p0_regs : Nat} {A_p1 : Option Addr} {c_p1 : Nat} (h_p1 : kOp.Sl s (.slice A_p1 a1.length c_p1) a1) {R : Bool × MSt} (hm : model_State_Apply_f a0 a1 a2 = some R) (H : Holds E s (pt b_p0 (.cells #[.map (some r_p0_lists), .map (some r_p0_regs)] 91 (0, 0)) :: mpO kcS kI s r_p0_lists a0.lists :: mpF kcS vcI r_p0_regs a0.regs :: L) w) :
    Calls Tryd.prog 42 #[.pointer (some ⟨b_p0, 0, none⟩), .slice A_p1 a1.length c_p1, .bool a2] w fun e w' => ∃ ro0_lists ro0_regs, e = .returned (.bool R.1) ∧ Holds E s (pt b_p0 (.cells #[.map (some ro0_lists), .map (some ro0_regs)] 91 (0, 0)) :: mpO kcS kI s ro0_lists R.2.lists :: mpF kcS vcI ro0_regs R.2.regs :: L) w' := by
  unfold model_State_Apply_f at hm
  go_enter Tryd.func42, Tryd.ntmps42
  refine wp_seq ?_
  refine wp_region_lit ?_
  apply seq_op (V := .bool false) rfl
  · exact fun _ h => O_as rfl rfl h
  (try simp only [PT])
  refine list_end ?_
  refine then_norm ?_
  refine wp_seq ?_
  refine wp_seq ?_
  refine wp_region_lit ?_
  apply seq_op (V := .pointer (some ⟨b_p0, 0, none⟩)) rfl
  · exact fun _ h => O_mv rfl rfl h
  (try simp only [PT])
  refine seq_opH (V := .bool false) H rfl ?_ ?_
  · intro Φ hΦ; refine O_call1 rfl Tryd.func81 rfl rfl rfl ?_; obtain ⟨sl0, hsl0, hb0, H, bk0, bg0⟩ := lendAt 0 rfl H; simp only [List.eraseIdx_cons_succ, List.eraseIdx_cons_zero, List.cons_append] at H bk0; obtain ⟨sl1, hsl1, hb1, H, bk1, bg1⟩ := lendMapO 0 rfl hsl0 H; simp only [List.eraseIdx_cons_succ, List.eraseIdx_cons_zero, List.cons_append] at H bk1; obtain ⟨sl2, hsl2, hb2, H, bk2, bg2⟩ := lendMapF 0 rfl H; simp only [List.eraseIdx_cons_succ, List.eraseIdx_cons_zero, List.cons_append] at H bk2; refine (model_State_none_w (a0 := a0) (hC_p0 := ((Cells.ofB hb0).mono (hsl1.trans hsl2))) (h_p0_lists := (hb1.mono hsl2)) (h_p0_regs := hb2) (H := H)).mono ?_; rintro e w2 ⟨rfl, H⟩; have H := bk2 H; have H := bk1 H; have H := bk0 H; exact ⟨_, rfl, hΦ _ H⟩
  clear H; intro w1 H
  (try simp only [PT])
  refine list_end ?_
  refine then_norm ?_
  refine wp_cond_false rfl ?_
  refine wp_skip ?_
  refine then_norm ?_
  refine wp_seq ?_
  refine wp_region_lit ?_
  apply seq_op (V := .pointer (some ⟨b_p0, 0, none⟩)) rfl
  · exact fun _ h => O_mv rfl rfl h
  (try simp only [PT])
  obtain ⟨sl0, hsl0, hb0, H, bk0, bg0⟩ := lendAt 0 rfl H; simp only [List.eraseIdx_cons_succ, List.eraseIdx_cons_zero, List.cons_append] at H bk0
  obtain ⟨sl1, hsl1, hb1, H, bk1, bg1⟩ := lendMapO 0 rfl hsl0 H; simp only [List.eraseIdx_cons_succ, List.eraseIdx_cons_zero, List.cons_append] at H bk1
  obtain ⟨sl2, hsl2, hb2, H, bk2, bg2⟩ := lendMapF 0 rfl H; simp only [List.eraseIdx_cons_succ, List.eraseIdx_cons_zero, List.cons_append] at H bk2
  refine seq_call rfl (fun Φ hΦ => by refine O_call1 rfl Tryd.func41 rfl rfl rfl hΦ) (model_State_Copy_w (a0 := a0) (hC_p0 := ((Cells.ofB hb0).mono (hsl1.trans hsl2))) (h_p0_lists := (hb1.mono hsl2)) (h_p0_regs := hb2) (H := H)) ?_
  clear H
  rintro e w1 ⟨br10, rr10_lists, rr10_regs, rfl, H⟩; refine ⟨_, rfl, ?_⟩
  replace H := Holds.mapAt 1 rfl (fun h k => mpO_pure (s0 := sl2) (s1 := s) kI_pure h k) H; simp only [List.set_cons_succ, List.set_cons_zero] at H
  have H := bg2 H
  have H := bg1 H
  have H := bg0 H
  (try simp only [PT])
  apply seq_op (V := .pointer (some ⟨br10, 0, none⟩)) rfl
  · exact fun _ h => O_as rfl rfl h
  (try simp only [PT])
  refine list_end ?_
  refine then_norm ?_
  refine wp_seq ?_
  refine wp_region_lit ?_
  apply seq_op (V := .pointer (some ⟨br10, 0, none⟩)) rfl
  · exact fun _ h => O_mv rfl rfl h
  (try simp only [PT])
  apply seq_op (V := .func (.func 94) #[.pointer (some ⟨br10, 0, none⟩)] #[]) rfl
  · intro Φ hΦ; refine O_mkfb (vb := #[.pointer (some ⟨br10, 0, none⟩)]) (vs := #[]) rfl (by (simp only [List.map_toArray, List.map_cons, List.map_nil]) <;> rfl) (by (simp only [List.map_toArray, List.map_cons, List.map_nil]) <;> rfl) ?_; exact hΦ
  (try simp only [PT])
  apply seq_op (V := .pointer (some ⟨br10, 0, none⟩)) rfl
  · exact fun _ h => O_mv rfl rfl h
  (try simp only [PT])
  obtain ⟨sl0, hsl0, hb0, H, bk0, bg0⟩ := lendAt 3 rfl H; simp only [List.eraseIdx_cons_succ, List.eraseIdx_cons_zero, List.cons_append] at H bk0
  obtain ⟨sl1, hsl1, hb1, H, bk1, bg1⟩ := lendMapO 3 rfl hsl0 H; simp only [List.eraseIdx_cons_succ, List.eraseIdx_cons_zero, List.cons_append] at H bk1
  obtain ⟨sl2, hsl2, hb2, H, bk2, bg2⟩ := lendMapF 3 rfl H; simp only [List.eraseIdx_cons_succ, List.eraseIdx_cons_zero, List.cons_append] at H bk2
  refine seq_call rfl (fun Φ hΦ => by refine O_call1 rfl Tryd.func95 rfl rfl rfl hΦ) (model_State_does_w (a0 := (⟨(model_State_Copy_f a0).lists, (model_State_Copy_f a0).regs⟩ : MSt)) (hC_p0 := ((Cells.ofB hb0).mono (hsl1.trans hsl2))) (h_p0_lists := (hb1.mono hsl2)) (h_p0_regs := hb2) (H := H)) ?_
  clear H
  rintro e w1 ⟨rfl, H⟩; refine ⟨_, rfl, ?_⟩
  have H := bk2 H
  have H := bk1 H
  have H := bk0 H
  (try simp only [PT])
  refine OpG.list rfl ?_; refine G_alloc 162 rfl (Tryd.zeroValue162 _) H ?_; clear H; intro b9 w1 H; (try simp only [Value.cells] at H)
  (try simp only [PT])
  apply seq_op (V := .func (.func 94) #[.pointer (some ⟨br10, 0, none⟩)] #[]) rfl
  · exact fun _ h => O_as rfl rfl h
  (try simp only [PT])
  refine OpG.list rfl ?_; refine G_setNi 0 (c := [.func (.func 136) #[] #[], .func (.func 137) #[.pointer (some ⟨br10, 0, none⟩)] #[], .func (.func 136) #[] #[], .func (.func 138) #[.pointer (some ⟨br10, 0, none⟩)] #[], .func (.func 136) #[] #[]]) _ _ _ rfl (Tryd.sizeOf162 _) rfl rfl (by simp [Value.oneCell']) H rfl rfl ?_; clear H; intro w1 H; simp only [List.set_cons_succ, List.set_cons_zero] at H
  (try simp only [PT])
  refine list_end ?_
  refine then_norm ?_
  refine wp_seq ?_
  refine wp_seq ?_
  refine wp_region_lit ?_
  apply seq_op (V := .slice A_p1 a1.length c_p1) rfl
  · exact fun _ h => O_mv rfl rfl h
  (try simp only [PT])
  apply seq_op (V := .int .i64 (a1.length : Int)) rfl
  · exact fun _ h => O_len rfl Tryd.underlying71 rfl h
  (try simp only [PT])
  apply seq_op (V := .int .i64 0) rfl
  · exact fun _ h => O_mv rfl rfl h
  (try simp only [PT])
  refine list_end ?_
  refine then_norm ?_
  refine wp_block ?_
  obtain ⟨R6, hq6, hm⟩ := bs hm
  have hn6 := Nat.le_trans (len_le (d := kOp) h_p1 (by decide)) (by decide : (140737488355328 : Nat) ≤ 9223372036854775807)
  refine wp_loopF [none, none, none, none, none, none, some 6, none, none, none, none, some 11, none, none, none, none, none, none, none, none, none, none, some 22, some 23, some 24, some 25, some 26, some 27, some 28, some 29, some 30, some 31, some 32, some 33, some 34, some 35, some 36, some 37, some 38, some 39, some 40, some 41, some 42, some 43, some 44, some 45, some 46, some 47, some 48, none, none, none, none, none] rfl (by simp) (fun f w => ∃ (k6 : Nat) (r6 : List Op') (y6_c4_0 : ByteArray → Option (List Int)) (r_y6_c4_0 : Nat) (y6_c4_1 : ByteArray → Option Int) (r_y6_c4_1 : Nat), a1.drop k6 = r6 ∧ f 22 = .int .i64 (k6 : Int) ∧ model_State_Apply_l6 a2 a0 k6 r6 y6_c4_0 y6_c4_1 = some R6 ∧ Holds E s (pt b9 (.cells #[.func (.func 136) #[] #[], .func (.func 137) #[.pointer (some ⟨br10, 0, none⟩)] #[], .func (.func 136) #[] #[], .func (.func 138) #[.pointer (some ⟨br10, 0, none⟩)] #[], .func (.func 136) #[] #[]] 162 (0, 0)) :: pt b_p0 (.cells #[.map (some r_p0_lists), .map (some r_p0_regs)] 91 (0, 0)) :: mpO kcS kI s r_p0_lists a0.lists :: mpF kcS vcI r_p0_regs a0.regs :: pt br10 (.cells #[.map (some r_y6_c4_0), .map (some r_y6_c4_1)] 91 (0, 0)) :: mpO kcS kI s r_y6_c4_0 y6_c4_0 :: mpF kcS vcI r_y6_c4_1 y6_c4_1 :: L) w) (fun f w => a1.length - (intOf (f 22)).toNat) ?_ ?_
  · exact ⟨0, a1, ((model_State_Copy_f a0).lists), rr10_lists, ((model_State_Copy_f a0).regs), rr10_regs, rfl, rfl, hq6, H⟩
  · clear H
    intro f w hI
    obtain ⟨k6, r6, y6_c4_0, r_y6_c4_0, y6_c4_1, r_y6_c4_1, hd6, hf22, hq6', H⟩ := hI
    clear hq6; have hq6 := hq6'; clear hq6'
    simp only [ovm, mixM]
    simp only [hf22]; clear hf22
    refine wp_seq ?_
    refine wp_region_lit ?_
    apply seq_op (V := .bool (decide ((k6 : Int) < (a1.length : Int)))) rfl
    · exact fun _ h => O_bin rfl rfl rfl eqg_int r_lss h
    (try simp only [PT])
    refine list_end ?_
    refine then_norm ?_
    refine wp_seq ?_
    refine wp_cond_split rfl (fun hc => ?_) (fun hc => ?_)
    · have hc1 := hc
      clear hc
      obtain ⟨x6, r6', rfl, hd6', hd6'', hl6⟩ := rng_t hd6 hc1
      rw [model_State_Apply_l6] at hq6
      refine wp_skip ?_
      refine then_norm ?_
      refine wp_seq ?_
      refine wp_block ?_
      refine wp_seq ?_
      obtain ⟨be1, oe1, A3e1, c3e1, rfl, hCe1, h0e1, h1e1, h2e1, h3e1⟩ := kOp_el h_p1 hd6'
      refine wp_region_lit ?_
      apply seq_op (V := .pointer (some ⟨be1, oe1 + k6 * 6, none⟩)) rfl
      · exact fun _ h => O_ix rfl Tryd.underlying71 (Tryd.sizeOf108 _) rfl rfl rfl hl6 h
      (try simp only [PT])
      apply seq_op (V := .agg #[.int .i64 x6.kind, .string x6.key, .int .i64 x6.value, .slice A3e1 x6.list.length c3e1, .bool x6.has, .bool x6.isNil]) rfl
      · exact fun _ h => G_sN _ _ rfl (Tryd.isAgg108 _) rfl H hCe1 (Tryd.sizeOf108 _) h
      (try simp only [PT])
      refine OpG.list rfl ?_; refine G_alloc 108 rfl (Tryd.zeroValue108 _) H ?_; clear H; intro b11 w1 H; (try simp only [Value.cells] at H)
      (try simp only [PT])
      refine OpG.list rfl ?_; refine G_setNi 0 (c := [.int .i64 x6.kind, .string x6.key, .int .i64 x6.value, .slice A3e1 x6.list.length c3e1, .bool x6.has, .bool x6.isNil]) _ _ _ rfl (Tryd.sizeOf108 _) rfl rfl (by simp [Value.oneCell']) H rfl rfl ?_; clear H; intro w1 H; simp only [List.set_cons_succ, List.set_cons_zero] at H
      (try simp only [PT])
      refine list_end ?_
      refine then_norm ?_
      refine wp_seq ?_
      refine wp_seq ?_
      rcases Bool.eq_false_or_eq_true (!a2) with hg1 | hg1
      · replace hq6 := ifT hg1 hq6
        obtain ⟨u1, gx1, hq6⟩ := bs hq6
        refine wp_region_lit ?_
        apply seq_op (V := .bool a2) rfl
        · exact fun _ h => O_mv rfl rfl h
        (try simp only [PT])
        apply seq_op (V := .bool (!a2)) rfl
        · exact fun _ h => O_not rfl rfl h
        (try simp only [PT])
        apply seq_op (V := .bool (!a2)) rfl
        · exact fun _ h => O_mv rfl rfl h
        (try simp only [PT])
        refine seq_opw (V := .func (.func 94) #[.pointer (some ⟨br10, 0, none⟩)] #[]) ((wanted_t rfl rfl rfl).trans hg1) ?_ ?_
        · exact fun _ h => O_mv rfl rfl h
        (try simp only [PT])
        refine seq_opw (V := .agg #[.int .i64 x6.kind, .string x6.key, .int .i64 x6.value, .slice A3e1 x6.list.length c3e1, .bool x6.has, .bool x6.isNil]) ((wanted_t rfl rfl rfl).trans hg1) ?_ ?_
        · exact fun _ h => G_pNi 0 _ _ rfl (Tryd.isAgg108 _) rfl H rfl (Tryd.sizeOf108 _) h
        (try simp only [PT])
        refine seq_opHw (V := .bool u1) H ((wanted_t rfl rfl rfl).trans hg1) ?_ ?_
        · intro Φ hΦ; refine O_callb1 rfl Tryd.func94 rfl rfl rfl rfl ?_; obtain ⟨sl0, hsl0, hb0, H, bk0, bg0⟩ := lendAt 5 rfl H; simp only [List.eraseIdx_cons_succ, List.eraseIdx_cons_zero, List.cons_append] at H bk0; obtain ⟨sl1, hsl1, hb1, H, bk1, bg1⟩ := lendMapO 5 rfl hsl0 H; simp only [List.eraseIdx_cons_succ, List.eraseIdx_cons_zero, List.cons_append] at H bk1; obtain ⟨sl2, hsl2, hb2, H, bk2, bg2⟩ := lendMapF 5 rfl H; simp only [List.eraseIdx_cons_succ, List.eraseIdx_cons_zero, List.cons_append] at H bk2; refine (model_State_right_w (a0 := (⟨y6_c4_0, y6_c4_1⟩ : MSt)) (hC_p0 := ((Cells.ofB hb0).mono (hsl1.trans hsl2))) (h_p0_lists := (hb1.mono hsl2)) (h_p0_regs := hb2) (a1 := x6) (hz_p1_key := h1e1) (h_p1_list := (h3e1.mono ((hsl0.trans hsl1).trans hsl2))) (hm := gx1) (H := H)).mono ?_; rintro e w2 ⟨rfl, H⟩; have H := bk2 H; have H := bk1 H; have H := bk0 H; exact ⟨_, rfl, hΦ _ H⟩
        clear H; intro w1 H
        (try simp only [PT])
        refine seq_opw (V := .bool (!u1)) ((wanted_t rfl rfl rfl).trans hg1) ?_ ?_
        · exact fun _ h => O_not rfl rfl h
        (try simp only [PT])
        apply seq_op (V := .bool (!u1)) rfl
        · exact fun _ h => O_pickT rfl rfl hg1 rfl h
        (try simp only [PT])
        refine list_end ?_
        refine then_norm ?_
        refine wp_cond_split rfl (fun hc => ?_) (fun hc => ?_)
        · have hc2 := hc
          clear hc
          replace hq6 := ifT hc2 hq6
          refine wp_seq ?_
          refine wp_region_lit ?_
          apply seq_op (V := .bool false) rfl
          · exact fun _ h => O_as rfl rfl h
          (try simp only [PT])
          refine list_end ?_
          refine then_norm ?_
          refine wp_ret ?_
          refine then_ret ?_
          refine block_ret ?_
          refine then_ret ?_
          refine then_ret ?_
          refine block_ret ?_
          refine then_ret ?_
          have hq6 := Option.some.inj hq6
          subst hq6
          (try dsimp only at hm)
          have hm := Option.some.inj hm
          subst hm
          replace H := H.front 4 rfl; simp only [List.eraseIdx_cons_succ, List.eraseIdx_cons_zero] at H
          replace H := H.front 4 rfl; simp only [List.eraseIdx_cons_succ, List.eraseIdx_cons_zero] at H
          replace H := H.front 4 rfl; simp only [List.eraseIdx_cons_succ, List.eraseIdx_cons_zero] at H
          replace H := H.dropAt 7 rfl; simp only [List.eraseIdx_cons_succ, List.eraseIdx_cons_zero] at H
          replace H := H.dropAt 6 rfl; simp only [List.eraseIdx_cons_succ, List.eraseIdx_cons_zero] at H
          replace H := H.dropAt 5 rfl; simp only [List.eraseIdx_cons_succ, List.eraseIdx_cons_zero] at H
          replace H := H.dropAt 4 rfl; simp only [List.eraseIdx_cons_succ, List.eraseIdx_cons_zero] at H
          replace H := H.dropAt 3 rfl; simp only [List.eraseIdx_cons_succ, List.eraseIdx_cons_zero] at H
          exact ret1 rfl (rv_tmp rfl) rfl ⟨r_p0_lists, r_p0_regs, rfl, H⟩
        · have hc2 := hc
          clear hc
          replace hq6 := ifF hc2 hq6
          refine wp_skip ?_
          refine then_norm ?_
          refine wp_seq ?_
          refine wp_region_lit ?_
          apply seq_op (V := .pointer (some ⟨b11, 0, none⟩)) rfl
          · exact fun _ h => O_fld rfl Tryd.underlying108 rfl (Tryd.sizeOf3 _) rfl h
          (try simp only [PT])
          apply seq_op (V := .int .i64 x6.kind) rfl
          · exact fun _ h => L_1 0 _ _ rfl (Tryd.isAgg3 _) rfl H rfl rfl h
          (try simp only [PT])
          apply seq_op (V := .bool (decide (x6.kind > 0))) rfl
          · exact fun _ h => O_bin rfl rfl rfl eqg_int r_gtr h
          (try simp only [PT])
          apply seq_op (V := .bool (decide (x6.kind > 0))) rfl
          · exact fun _ h => O_mv rfl rfl h
          (try simp only [PT])
          refine seq_opg (c := (decide (x6.kind > 0))) (V := .pointer (some ⟨b11, 0, none⟩)) (by first | exact wanted_t rfl rfl rfl | exact wanted_vt rfl rfl rfl) ?_ ?_
          · intro hc Φ hΦ; refine O_fld rfl Tryd.underlying108 rfl (Tryd.sizeOf3 _) rfl ?_; exact hΦ
          (try simp only [PT])
          refine seq_opg (c := (decide (x6.kind > 0))) (V := .int .i64 x6.kind) (by first | exact wanted_t rfl rfl rfl | exact wanted_vt rfl rfl rfl) ?_ ?_
          · intro hc Φ hΦ; (repeat (first | rw [vg_of hc] | rw [vg_of (and_l hc)] | rw [vg_of (and_l (and_l hc))] | rw [vg_of (and_l (and_l (and_l hc)))] | rw [vg_and hc])); refine L_1 0 _ _ rfl (Tryd.isAgg3 _) rfl H rfl rfl ?_; exact hΦ
          (try simp only [PT])
          refine seq_opg (c := (decide (x6.kind > 0))) (V := .bool (decide (x6.kind < 5))) (by first | exact wanted_t rfl rfl rfl | exact wanted_vt rfl rfl rfl) ?_ ?_
          · intro hc Φ hΦ; (repeat (first | rw [vg_of hc] | rw [vg_of (and_l hc)] | rw [vg_of (and_l (and_l hc))] | rw [vg_of (and_l (and_l (and_l hc)))] | rw [vg_and hc])); refine O_bin rfl rfl rfl eqg_int r_lss ?_; exact hΦ
          (try simp only [PT])
          apply seq_op (V := .bool ((decide (x6.kind > 0)) && (decide (x6.kind < 5)))) rfl
          · exact fun _ h => G_and _ _ _ rfl rfl rfl rfl h
          (try simp only [PT])
          refine list_end ?_
          refine then_norm ?_
          refine wp_cond_split rfl (fun hc => ?_) (fun hc => ?_)
          · have hc3 := hc
            clear hc
            replace hq6 := ifT hc3 hq6
            rcases Bool.eq_false_or_eq_true (x6.kind == 0) with hg2 | hg2
            · replace hq6 := ifT hg2 hq6
              refine wp_draw_C (k := 6) (sz := 54) [5] [.pointer (some ⟨b11, 0, none⟩), .int .i64 x6.kind, .pointer (some ⟨b9, 0, none⟩), .func (.func 136) #[] #[], .agg #[.int .i64 x6.kind, .string x6.key, .int .i64 x6.value, .slice A3e1 x6.list.length c3e1, .bool x6.has, .bool x6.isNil], undef] [pt b11 (.cells #[.int .i64 x6.kind, .string x6.key, .int .i64 x6.value, .slice A3e1 x6.list.length c3e1, .bool x6.has, .bool x6.isNil] 108 (0, 0)), pt b9 (.cells #[.func (.func 136) #[] #[], .func (.func 137) #[.pointer (some ⟨br10, 0, none⟩)] #[], .func (.func 136) #[] #[], .func (.func 138) #[.pointer (some ⟨br10, 0, none⟩)] #[], .func (.func 136) #[] #[]] 162 (0, 0))] [fun w x => x 5 = .tuple #[] ∧ Holds E s (pt b11 (.cells #[.int .i64 x6.kind, .string x6.key, .int .i64 x6.value, .slice A3e1 x6.list.length c3e1, .bool x6.has, .bool x6.isNil] 108 (0, 0)) :: pt b9 (.cells #[.func (.func 136) #[] #[], .func (.func 137) #[.pointer (some ⟨br10, 0, none⟩)] #[], .func (.func 136) #[] #[], .func (.func 138) #[.pointer (some ⟨br10, 0, none⟩)] #[], .func (.func 136) #[] #[]] 162 (0, 0)) :: pt b_p0 (.cells #[.map (some r_p0_lists), .map (some r_p0_regs)] 91 (0, 0)) :: mpO kcS kI s r_p0_lists a0.lists :: mpF kcS vcI r_p0_regs a0.regs :: pt br10 (.cells #[.map (some r_y6_c4_0), .map (some r_y6_c4_1)] 91 (0, 0)) :: mpO kcS kI s r_y6_c4_0 y6_c4_0 :: mpF kcS vcI r_y6_c4_1 y6_c4_1 :: L) w] mixed (by simp) rfl (by kernel_rfl) (by kernel_rfl) (by kernel_rfl) (by simp) rfl H (by simp only [List.take_succ_cons, List.take_zero]; exact rfl) (by simp only [List.drop_succ_cons, List.drop_zero]; exact rfl)
                (fun x => by simp only [ov, Act.put, List.setIfInBounds_toArray, List.set_cons_succ, List.set_cons_zero, Nat.zero_add, Nat.reduceAdd]; exact rfl) ?_ ?_ ?_ ?_
              · refine ⟨?_, ?_, trivial⟩
                · intro w x hS; have H : Holds E s (pt b11 (.cells #[.int .i64 x6.kind, .string x6.key, .int .i64 x6.value, .slice A3e1 x6.list.length c3e1, .bool x6.has, .bool x6.isNil] 108 (0, 0)) :: pt b9 (.cells #[.func (.func 136) #[] #[], .func (.func 137) #[.pointer (some ⟨br10, 0, none⟩)] #[], .func (.func 136) #[] #[], .func (.func 138) #[.pointer (some ⟨br10, 0, none⟩)] #[], .func (.func 136) #[] #[]] 162 (0, 0)) :: pt b_p0 (.cells #[.map (some r_p0_lists), .map (some r_p0_regs)] 91 (0, 0)) :: mpO kcS kI s r_p0_lists a0.lists :: mpF kcS vcI r_p0_regs a0.regs :: pt br10 (.cells #[.map (some r_y6_c4_0), .map (some r_y6_c4_1)] 91 (0, 0)) :: mpO kcS kI s r_y6_c4_0 y6_c4_0 :: mpF kcS vcI r_y6_c4_1 y6_c4_1 :: L) w := hS; replace H := H.front 1 rfl; simp only [List.eraseIdx_cons_succ, List.eraseIdx_cons_zero] at H; replace H := H.front 1 rfl; simp only [List.eraseIdx_cons_succ, List.eraseIdx_cons_zero] at H; exact ⟨_, _, Sub.refl _, H⟩
                · intro w x hS; obtain ⟨e5, H⟩ := hS; replace H := H.front 1 rfl; simp only [List.eraseIdx_cons_succ, List.eraseIdx_cons_zero] at H; replace H := H.front 1 rfl; simp only [List.eraseIdx_cons_succ, List.eraseIdx_cons_zero] at H; exact ⟨_, _, Sub.refl _, H⟩
              · refine ⟨?_, ?_, ?_, ?_, ?_, ?_, trivial⟩
                · refine .inr ?_; intro s' R w' x Φ hs H hx hΦ; refine wantG rfl ?_; refine O_fld rfl Tryd.underlying108 rfl (Tryd.sizeOf3 _) rfl ?_; exact hΦ
                · refine .inr ?_; intro s' R w' x Φ hs H hx hΦ; have e0 : x 0 = .pointer (some ⟨b11, 0, none⟩) := hx 0 (by decide) (by decide); simp only [e0]; refine wantG rfl ?_; refine L_1 0 _ _ rfl (Tryd.isAgg3 _) rfl H rfl rfl ?_; exact hΦ
                · refine .inr ?_; intro s' R w' x Φ hs H hx hΦ; have e1 : x 1 = .int .i64 x6.kind := hx 1 (by decide) (by decide); simp only [e1]; refine wantG rfl ?_; refine O_ixA (k := 0) rfl Tryd.underlying162 (Tryd.sizeOf161 _) rfl rfl hg2 (by decide) ?_; exact hΦ
                · refine .inr ?_; intro s' R w' x Φ hs H hx hΦ; have e2 : x 2 = .pointer (some ⟨b9, 0, none⟩) := hx 2 (by decide) (by decide); simp only [e2]; refine wantG rfl ?_; refine L_1 1 _ _ rfl (Tryd.isAgg161 _) rfl H rfl rfl ?_; exact hΦ
                · refine .inr ?_; intro s' R w' x Φ hs H hx hΦ; refine wantG rfl ?_; refine G_pNi 0 _ _ rfl (Tryd.isAgg108 _) rfl H rfl (Tryd.sizeOf108 _) ?_; exact hΦ
                · exact .inl (by decide)
              · refine ⟨?_, trivial⟩
                · intro o ho; obtain rfl := Option.some.inj ho; intro w' x Φ hS hx hΦ
                  have H : Holds E s (pt b11 (.cells #[.int .i64 x6.kind, .string x6.key, .int .i64 x6.value, .slice A3e1 x6.list.length c3e1, .bool x6.has, .bool x6.isNil] 108 (0, 0)) :: pt b9 (.cells #[.func (.func 136) #[] #[], .func (.func 137) #[.pointer (some ⟨br10, 0, none⟩)] #[], .func (.func 136) #[] #[], .func (.func 138) #[.pointer (some ⟨br10, 0, none⟩)] #[], .func (.func 136) #[] #[]] 162 (0, 0)) :: pt b_p0 (.cells #[.map (some r_p0_lists), .map (some r_p0_regs)] 91 (0, 0)) :: mpO kcS kI s r_p0_lists a0.lists :: mpF kcS vcI r_p0_regs a0.regs :: pt br10 (.cells #[.map (some r_y6_c4_0), .map (some r_y6_c4_1)] 91 (0, 0)) :: mpO kcS kI s r_y6_c4_0 y6_c4_0 :: mpF kcS vcI r_y6_c4_1 y6_c4_1 :: L) w' := hS; clear hS
                  have e3 : x 3 = .func (.func 136) #[] #[] := hx 3 (by decide) (by decide)
                  have e4 : x 4 = .agg #[.int .i64 x6.kind, .string x6.key, .int .i64 x6.value, .slice A3e1 x6.list.length c3e1, .bool x6.has, .bool x6.isNil] := hx 4 (by decide) (by decide)
                  simp only [e3, e4]
                  refine wantG rfl ?_
                  refine O_callv1 (args := #[.agg #[.int .i64 x6.kind, .string x6.key, .int .i64 x6.value, .slice A3e1 x6.list.length c3e1, .bool x6.has, .bool x6.isNil]]) (v1 := .agg #[.int .i64 x6.kind, .string x6.key, .int .i64 x6.value, .slice A3e1 x6.list.length c3e1, .bool x6.has, .bool x6.isNil]) rfl Tryd.func136 rfl rfl rfl rfl (by simp only [Array.append_empty]) ?_; refine (model_State_does_1_w (a0 := x6) (h_p0_list := h3e1) (H := H)).mono ?_
                  clear H
                  rintro e w1 ⟨rfl, H⟩; refine ⟨_, rfl, ?_⟩
                  exact hΦ _ _ ⟨updV_same, H⟩
              · clear H
                intro w' x hS hx
                obtain ⟨e5, H⟩ := hS
                have e0 : x 0 = .pointer (some ⟨b11, 0, none⟩) := hx 0 (by decide) (by decide)
                have e1 : x 1 = .int .i64 x6.kind := hx 1 (by decide) (by decide)
                have e2 : x 2 = .pointer (some ⟨b9, 0, none⟩) := hx 2 (by decide) (by decide)
                have e3 : x 3 = .func (.func 136) #[] #[] := hx 3 (by decide) (by decide)
                have e4 : x 4 = .agg #[.int .i64 x6.kind, .string x6.key, .int .i64 x6.value, .slice A3e1 x6.list.length c3e1, .bool x6.has, .bool x6.isNil] := hx 4 (by decide) (by decide)
                simp only [e0, e1, e2, e3, e4, e5]
                clear hx
                refine list_end ?_
                refine block_norm ?_
                refine then_norm ?_
                refine wp_region_lit ?_
                apply seq_op (V := .int .i64 (IntKind.i64.wrap ((k6 : Int) + 1))) rfl
                · exact fun _ h => O_bin rfl rfl rfl eqg_int r_add h
                (try simp only [PT])
                apply seq_op (V := .int .i64 (IntKind.i64.wrap ((k6 : Int) + 1))) rfl
                · exact fun _ h => O_mv rfl rfl h
                (try simp only [PT])
                refine list_end ?_
                refine then_norm ?_
                replace H := H.drop
                refine ⟨⟨⟨rfl, rfl, rfl, rfl, rfl, rfl, rfl, rfl, rfl, rfl, rfl, rfl, rfl, rfl, rfl, rfl, rfl, rfl, rfl, rfl, rfl, rfl, rfl, rfl, rfl, rfl⟩, rfl⟩, ⟨k6 + 1, _, y6_c4_0, r_y6_c4_0, y6_c4_1, r_y6_c4_1, hd6'', wrap_succ hl6 hn6, hq6, H⟩, ?_⟩
                exact meas_succ hl6 hn6
            · replace hq6 := ifF hg2 hq6
              rcases Bool.eq_false_or_eq_true (x6.kind == 1) with hg3 | hg3
              · replace hq6 := ifT hg3 hq6
                obtain ⟨u2, gx2, hq6⟩ := bs hq6
                refine wp_draw_C (k := 6) (sz := 54) [5] [.pointer (some ⟨b11, 0, none⟩), .int .i64 x6.kind, .pointer (some ⟨b9, 1, none⟩), .func (.func 137) #[.pointer (some ⟨br10, 0, none⟩)] #[], .agg #[.int .i64 x6.kind, .string x6.key, .int .i64 x6.value, .slice A3e1 x6.list.length c3e1, .bool x6.has, .bool x6.isNil], undef] [pt b11 (.cells #[.int .i64 x6.kind, .string x6.key, .int .i64 x6.value, .slice A3e1 x6.list.length c3e1, .bool x6.has, .bool x6.isNil] 108 (0, 0)), pt b9 (.cells #[.func (.func 136) #[] #[], .func (.func 137) #[.pointer (some ⟨br10, 0, none⟩)] #[], .func (.func 136) #[] #[], .func (.func 138) #[.pointer (some ⟨br10, 0, none⟩)] #[], .func (.func 136) #[] #[]] 162 (0, 0))] [fun w x => ∃ (rr3o0_lists : Nat) (rr3o0_regs : Nat), x 5 = .tuple #[] ∧ Holds E s (pt br10 (.cells #[.map (some rr3o0_lists), .map (some rr3o0_regs)] 91 (0, 0)) :: mpO kcS kI s rr3o0_lists u2.lists :: mpF kcS vcI rr3o0_regs u2.regs :: pt b11 (.cells #[.int .i64 x6.kind, .string x6.key, .int .i64 x6.value, .slice A3e1 x6.list.length c3e1, .bool x6.has, .bool x6.isNil] 108 (0, 0)) :: pt b9 (.cells #[.func (.func 136) #[] #[], .func (.func 137) #[.pointer (some ⟨br10, 0, none⟩)] #[], .func (.func 136) #[] #[], .func (.func 138) #[.pointer (some ⟨br10, 0, none⟩)] #[], .func (.func 136) #[] #[]] 162 (0, 0)) :: pt b_p0 (.cells #[.map (some r_p0_lists), .map (some r_p0_regs)] 91 (0, 0)) :: mpO kcS kI s r_p0_lists a0.lists :: mpF kcS vcI r_p0_regs a0.regs :: L) w] mixed (by simp) rfl (by kernel_rfl) (by kernel_rfl) (by kernel_rfl) (by simp) rfl H (by simp only [List.take_succ_cons, List.take_zero]; exact rfl) (by simp only [List.drop_succ_cons, List.drop_zero]; exact rfl)
                  (fun x => by simp only [ov, Act.put, List.setIfInBounds_toArray, List.set_cons_succ, List.set_cons_zero, Nat.zero_add, Nat.reduceAdd]; exact rfl) ?_ ?_ ?_ ?_
                · refine ⟨?_, ?_, trivial⟩
                  · intro w x hS; have H : Holds E s (pt b11 (.cells #[.int .i64 x6.kind, .string x6.key, .int .i64 x6.value, .slice A3e1 x6.list.length c3e1, .bool x6.has, .bool x6.isNil] 108 (0, 0)) :: pt b9 (.cells #[.func (.func 136) #[] #[], .func (.func 137) #[.pointer (some ⟨br10, 0, none⟩)] #[], .func (.func 136) #[] #[], .func (.func 138) #[.pointer (some ⟨br10, 0, none⟩)] #[], .func (.func 136) #[] #[]] 162 (0, 0)) :: pt b_p0 (.cells #[.map (some r_p0_lists), .map (some r_p0_regs)] 91 (0, 0)) :: mpO kcS kI s r_p0_lists a0.lists :: mpF kcS vcI r_p0_regs a0.regs :: pt br10 (.cells #[.map (some r_y6_c4_0), .map (some r_y6_c4_1)] 91 (0, 0)) :: mpO kcS kI s r_y6_c4_0 y6_c4_0 :: mpF kcS vcI r_y6_c4_1 y6_c4_1 :: L) w := hS; replace H := H.front 1 rfl; simp only [List.eraseIdx_cons_succ, List.eraseIdx_cons_zero] at H; replace H := H.front 1 rfl; simp only [List.eraseIdx_cons_succ, List.eraseIdx_cons_zero] at H; exact ⟨_, _, Sub.refl _, H⟩
                  · intro w x hS; obtain ⟨rr3o0_lists, rr3o0_regs, e5, H⟩ := hS; replace H := H.front 4 rfl; simp only [List.eraseIdx_cons_succ, List.eraseIdx_cons_zero] at H; replace H := H.front 4 rfl; simp only [List.eraseIdx_cons_succ, List.eraseIdx_cons_zero] at H; exact ⟨_, _, Sub.refl _, H⟩
                · refine ⟨?_, ?_, ?_, ?_, ?_, ?_, trivial⟩
                  · refine .inr ?_; intro s' R w' x Φ hs H hx hΦ; refine wantG rfl ?_; refine O_fld rfl Tryd.underlying108 rfl (Tryd.sizeOf3 _) rfl ?_; exact hΦ
                  · refine .inr ?_; intro s' R w' x Φ hs H hx hΦ; have e0 : x 0 = .pointer (some ⟨b11, 0, none⟩) := hx 0 (by decide) (by decide); simp only [e0]; refine wantG rfl ?_; refine L_1 0 _ _ rfl (Tryd.isAgg3 _) rfl H rfl rfl ?_; exact hΦ
                  · refine .inr ?_; intro s' R w' x Φ hs H hx hΦ; have e1 : x 1 = .int .i64 x6.kind := hx 1 (by decide) (by decide); simp only [e1]; refine wantG rfl ?_; refine O_ixA (k := 1) rfl Tryd.underlying162 (Tryd.sizeOf161 _) rfl rfl hg3 (by decide) ?_; exact hΦ
                  · refine .inr ?_; intro s' R w' x Φ hs H hx hΦ; have e2 : x 2 = .pointer (some ⟨b9, 1, none⟩) := hx 2 (by decide) (by decide); simp only [e2]; refine wantG rfl ?_; refine L_1 1 _ _ rfl (Tryd.isAgg161 _) rfl H rfl rfl ?_; exact hΦ
                  · refine .inr ?_; intro s' R w' x Φ hs H hx hΦ; refine wantG rfl ?_; refine G_pNi 0 _ _ rfl (Tryd.isAgg108 _) rfl H rfl (Tryd.sizeOf108 _) ?_; exact hΦ
                  · exact .inl (by decide)
                · refine ⟨?_, trivial⟩
                  · intro o ho; obtain rfl := Option.some.inj ho; intro w' x Φ hS hx hΦ
                    have H : Holds E s (pt b11 (.cells #[.int .i64 x6.kind, .string x6.key, .int .i64 x6.value, .slice A3e1 x6.list.length c3e1, .bool x6.has, .bool x6.isNil] 108 (0, 0)) :: pt b9 (.cells #[.func (.func 136) #[] #[], .func (.func 137) #[.pointer (some ⟨br10, 0, none⟩)] #[], .func (.func 136) #[] #[], .func (.func 138) #[.pointer (some ⟨br10, 0, none⟩)] #[], .func (.func 136) #[] #[]] 162 (0, 0)) :: pt b_p0 (.cells #[.map (some r_p0_lists), .map (some r_p0_regs)] 91 (0, 0)) :: mpO kcS kI s r_p0_lists a0.lists :: mpF kcS vcI r_p0_regs a0.regs :: pt br10 (.cells #[.map (some r_y6_c4_0), .map (some r_y6_c4_1)] 91 (0, 0)) :: mpO kcS kI s r_y6_c4_0 y6_c4_0 :: mpF kcS vcI r_y6_c4_1 y6_c4_1 :: L) w' := hS; clear hS
                    have e3 : x 3 = .func (.func 137) #[.pointer (some ⟨br10, 0, none⟩)] #[] := hx 3 (by decide) (by decide)
                    have e4 : x 4 = .agg #[.int .i64 x6.kind, .string x6.key, .int .i64 x6.value, .slice A3e1 x6.list.length c3e1, .bool x6.has, .bool x6.isNil] := hx 4 (by decide) (by decide)
                    simp only [e3, e4]
                    refine wantG rfl ?_
                    replace H := H.front 7 rfl; simp only [List.eraseIdx_cons_succ, List.eraseIdx_cons_zero] at H
                    replace H := H.front 7 rfl; simp only [List.eraseIdx_cons_succ, List.eraseIdx_cons_zero] at H
                    replace H := H.front 7 rfl; simp only [List.eraseIdx_cons_succ, List.eraseIdx_cons_zero] at H
                    refine O_callb1 rfl Tryd.func137 rfl rfl rfl rfl ?_; refine (model_State_append_w (a0 := (⟨y6_c4_0, y6_c4_1⟩ : MSt)) (a1 := x6) (hz_p1_key := h1e1) (hr_p1_value := h2e1) (h_p1_list := h3e1) (hm := gx2) (H := H)).mono ?_
                    clear H
                    rintro e w1 ⟨rr3o0_lists, rr3o0_regs, rfl, H⟩; refine ⟨_, rfl, ?_⟩
                    exact hΦ _ _ ⟨rr3o0_lists, rr3o0_regs, updV_same, H⟩
                · clear H
                  intro w' x hS hx
                  obtain ⟨rr3o0_lists, rr3o0_regs, e5, H⟩ := hS
                  have e0 : x 0 = .pointer (some ⟨b11, 0, none⟩) := hx 0 (by decide) (by decide)
                  have e1 : x 1 = .int .i64 x6.kind := hx 1 (by decide) (by decide)
                  have e2 : x 2 = .pointer (some ⟨b9, 1, none⟩) := hx 2 (by decide) (by decide)
                  have e3 : x 3 = .func (.func 137) #[.pointer (some ⟨br10, 0, none⟩)] #[] := hx 3 (by decide) (by decide)
                  have e4 : x 4 = .agg #[.int .i64 x6.kind, .string x6.key, .int .i64 x6.value, .slice A3e1 x6.list.length c3e1, .bool x6.has, .bool x6.isNil] := hx 4 (by decide) (by decide)
                  simp only [e0, e1, e2, e3, e4, e5]
                  clear hx
                  refine list_end ?_
                  refine block_norm ?_
                  refine then_norm ?_
                  refine wp_region_lit ?_
                  apply seq_op (V := .int .i64 (IntKind.i64.wrap ((k6 : Int) + 1))) rfl
                  · exact fun _ h => O_bin rfl rfl rfl eqg_int r_add h
                  (try simp only [PT])
                  apply seq_op (V := .int .i64 (IntKind.i64.wrap ((k6 : Int) + 1))) rfl
                  · exact fun _ h => O_mv rfl rfl h
                  (try simp only [PT])
                  refine list_end ?_
                  refine then_norm ?_
                  replace H := H.front 2 rfl; simp only [List.eraseIdx_cons_succ, List.eraseIdx_cons_zero] at H
                  replace H := H.front 2 rfl; simp only [List.eraseIdx_cons_succ, List.eraseIdx_cons_zero] at H
                  replace H := H.front 2 rfl; simp only [List.eraseIdx_cons_succ, List.eraseIdx_cons_zero] at H
                  replace H := H.front 7 rfl; simp only [List.eraseIdx_cons_succ, List.eraseIdx_cons_zero] at H
                  replace H := H.front 7 rfl; simp only [List.eraseIdx_cons_succ, List.eraseIdx_cons_zero] at H
                  replace H := H.front 7 rfl; simp only [List.eraseIdx_cons_succ, List.eraseIdx_cons_zero] at H
                  replace H := H.front 7 rfl; simp only [List.eraseIdx_cons_succ, List.eraseIdx_cons_zero] at H
                  replace H := H.dropAt 7 rfl; simp only [List.eraseIdx_cons_succ, List.eraseIdx_cons_zero] at H
                  refine ⟨⟨⟨rfl, rfl, rfl, rfl, rfl, rfl, rfl, rfl, rfl, rfl, rfl, rfl, rfl, rfl, rfl, rfl, rfl, rfl, rfl, rfl, rfl, rfl, rfl, rfl, rfl, rfl⟩, rfl⟩, ⟨k6 + 1, _, u2.lists, rr3o0_lists, u2.regs, rr3o0_regs, hd6'', wrap_succ hl6 hn6, hq6, H⟩, ?_⟩
                  exact meas_succ hl6 hn6
              · replace hq6 := ifF hg3 hq6
                rcases Bool.eq_false_or_eq_true (x6.kind == 2) with hg4 | hg4
                · replace hq6 := ifT hg4 hq6
                  refine wp_draw_C (k := 6) (sz := 54) [5] [.pointer (some ⟨b11, 0, none⟩), .int .i64 x6.kind, .pointer (some ⟨b9, 2, none⟩), .func (.func 136) #[] #[], .agg #[.int .i64 x6.kind, .string x6.key, .int .i64 x6.value, .slice A3e1 x6.list.length c3e1, .bool x6.has, .bool x6.isNil], undef] [pt b11 (.cells #[.int .i64 x6.kind, .string x6.key, .int .i64 x6.value, .slice A3e1 x6.list.length c3e1, .bool x6.has, .bool x6.isNil] 108 (0, 0)), pt b9 (.cells #[.func (.func 136) #[] #[], .func (.func 137) #[.pointer (some ⟨br10, 0, none⟩)] #[], .func (.func 136) #[] #[], .func (.func 138) #[.pointer (some ⟨br10, 0, none⟩)] #[], .func (.func 136) #[] #[]] 162 (0, 0))] [fun w x => x 5 = .tuple #[] ∧ Holds E s (pt b11 (.cells #[.int .i64 x6.kind, .string x6.key, .int .i64 x6.value, .slice A3e1 x6.list.length c3e1, .bool x6.has, .bool x6.isNil] 108 (0, 0)) :: pt b9 (.cells #[.func (.func 136) #[] #[], .func (.func 137) #[.pointer (some ⟨br10, 0, none⟩)] #[], .func (.func 136) #[] #[], .func (.func 138) #[.pointer (some ⟨br10, 0, none⟩)] #[], .func (.func 136) #[] #[]] 162 (0, 0)) :: pt b_p0 (.cells #[.map (some r_p0_lists), .map (some r_p0_regs)] 91 (0, 0)) :: mpO kcS kI s r_p0_lists a0.lists :: mpF kcS vcI r_p0_regs a0.regs :: pt br10 (.cells #[.map (some r_y6_c4_0), .map (some r_y6_c4_1)] 91 (0, 0)) :: mpO kcS kI s r_y6_c4_0 y6_c4_0 :: mpF kcS vcI r_y6_c4_1 y6_c4_1 :: L) w] mixed (by simp) rfl (by kernel_rfl) (by kernel_rfl) (by kernel_rfl) (by simp) rfl H (by simp only [List.take_succ_cons, List.take_zero]; exact rfl) (by simp only [List.drop_succ_cons, List.drop_zero]; exact rfl)
                    (fun x => by simp only [ov, Act.put, List.setIfInBounds_toArray, List.set_cons_succ, List.set_cons_zero, Nat.zero_add, Nat.reduceAdd]; exact rfl) ?_ ?_ ?_ ?_
                  · refine ⟨?_, ?_, trivial⟩
                    · intro w x hS; have H : Holds E s (pt b11 (.cells #[.int .i64 x6.kind, .string x6.key, .int .i64 x6.value, .slice A3e1 x6.list.length c3e1, .bool x6.has, .bool x6.isNil] 108 (0, 0)) :: pt b9 (.cells #[.func (.func 136) #[] #[], .func (.func 137) #[.pointer (some ⟨br10, 0, none⟩)] #[], .func (.func 136) #[] #[], .func (.func 138) #[.pointer (some ⟨br10, 0, none⟩)] #[], .func (.func 136) #[] #[]] 162 (0, 0)) :: pt b_p0 (.cells #[.map (some r_p0_lists), .map (some r_p0_regs)] 91 (0, 0)) :: mpO kcS kI s r_p0_lists a0.lists :: mpF kcS vcI r_p0_regs a0.regs :: pt br10 (.cells #[.map (some r_y6_c4_0), .map (some r_y6_c4_1)] 91 (0, 0)) :: mpO kcS kI s r_y6_c4_0 y6_c4_0 :: mpF kcS vcI r_y6_c4_1 y6_c4_1 :: L) w := hS; replace H := H.front 1 rfl; simp only [List.eraseIdx_cons_succ, List.eraseIdx_cons_zero] at H; replace H := H.front 1 rfl; simp only [List.eraseIdx_cons_succ, List.eraseIdx_cons_zero] at H; exact ⟨_, _, Sub.refl _, H⟩
                    · intro w x hS; obtain ⟨e5, H⟩ := hS; replace H := H.front 1 rfl; simp only [List.eraseIdx_cons_succ, List.eraseIdx_cons_zero] at H; replace H := H.front 1 rfl; simp only [List.eraseIdx_cons_succ, List.eraseIdx_cons_zero] at H; exact ⟨_, _, Sub.refl _, H⟩
                  · refine ⟨?_, ?_, ?_, ?_, ?_, ?_, trivial⟩
                    · refine .inr ?_; intro s' R w' x Φ hs H hx hΦ; refine wantG rfl ?_; refine O_fld rfl Tryd.underlying108 rfl (Tryd.sizeOf3 _) rfl ?_; exact hΦ
                    · refine .inr ?_; intro s' R w' x Φ hs H hx hΦ; have e0 : x 0 = .pointer (some ⟨b11, 0, none⟩) := hx 0 (by decide) (by decide); simp only [e0]; refine wantG rfl ?_; refine L_1 0 _ _ rfl (Tryd.isAgg3 _) rfl H rfl rfl ?_; exact hΦ
                    · refine .inr ?_; intro s' R w' x Φ hs H hx hΦ; have e1 : x 1 = .int .i64 x6.kind := hx 1 (by decide) (by decide); simp only [e1]; refine wantG rfl ?_; refine O_ixA (k := 2) rfl Tryd.underlying162 (Tryd.sizeOf161 _) rfl rfl hg4 (by decide) ?_; exact hΦ
                    · refine .inr ?_; intro s' R w' x Φ hs H hx hΦ; have e2 : x 2 = .pointer (some ⟨b9, 2, none⟩) := hx 2 (by decide) (by decide); simp only [e2]; refine wantG rfl ?_; refine L_1 1 _ _ rfl (Tryd.isAgg161 _) rfl H rfl rfl ?_; exact hΦ
                    · refine .inr ?_; intro s' R w' x Φ hs H hx hΦ; refine wantG rfl ?_; refine G_pNi 0 _ _ rfl (Tryd.isAgg108 _) rfl H rfl (Tryd.sizeOf108 _) ?_; exact hΦ
                    · exact .inl (by decide)
                  · refine ⟨?_, trivial⟩
                    · intro o ho; obtain rfl := Option.some.inj ho; intro w' x Φ hS hx hΦ
                      have H : Holds E s (pt b11 (.cells #[.int .i64 x6.kind, .string x6.key, .int .i64 x6.value, .slice A3e1 x6.list.length c3e1, .bool x6.has, .bool x6.isNil] 108 (0, 0)) :: pt b9 (.cells #[.func (.func 136) #[] #[], .func (.func 137) #[.pointer (some ⟨br10, 0, none⟩)] #[], .func (.func 136) #[] #[], .func (.func 138) #[.pointer (some ⟨br10, 0, none⟩)] #[], .func (.func 136) #[] #[]] 162 (0, 0)) :: pt b_p0 (.cells #[.map (some r_p0_lists), .map (some r_p0_regs)] 91 (0, 0)) :: mpO kcS kI s r_p0_lists a0.lists :: mpF kcS vcI r_p0_regs a0.regs :: pt br10 (.cells #[.map (some r_y6_c4_0), .map (some r_y6_c4_1)] 91 (0, 0)) :: mpO kcS kI s r_y6_c4_0 y6_c4_0 :: mpF kcS vcI r_y6_c4_1 y6_c4_1 :: L) w' := hS; clear hS
                      have e3 : x 3 = .func (.func 136) #[] #[] := hx 3 (by decide) (by decide)
                      have e4 : x 4 = .agg #[.int .i64 x6.kind, .string x6.key, .int .i64 x6.value, .slice A3e1 x6.list.length c3e1, .bool x6.has, .bool x6.isNil] := hx 4 (by decide) (by decide)
                      simp only [e3, e4]
                      refine wantG rfl ?_
                      refine O_callv1 (args := #[.agg #[.int .i64 x6.kind, .string x6.key, .int .i64 x6.value, .slice A3e1 x6.list.length c3e1, .bool x6.has, .bool x6.isNil]]) (v1 := .agg #[.int .i64 x6.kind, .string x6.key, .int .i64 x6.value, .slice A3e1 x6.list.length c3e1, .bool x6.has, .bool x6.isNil]) rfl Tryd.func136 rfl rfl rfl rfl (by simp only [Array.append_empty]) ?_; refine (model_State_does_1_w (a0 := x6) (h_p0_list := h3e1) (H := H)).mono ?_
                      clear H
                      rintro e w1 ⟨rfl, H⟩; refine ⟨_, rfl, ?_⟩
                      exact hΦ _ _ ⟨updV_same, H⟩
                  · clear H
                    intro w' x hS hx
                    obtain ⟨e5, H⟩ := hS
                    have e0 : x 0 = .pointer (some ⟨b11, 0, none⟩) := hx 0 (by decide) (by decide)
                    have e1 : x 1 = .int .i64 x6.kind := hx 1 (by decide) (by decide)
                    have e2 : x 2 = .pointer (some ⟨b9, 2, none⟩) := hx 2 (by decide) (by decide)
                    have e3 : x 3 = .func (.func 136) #[] #[] := hx 3 (by decide) (by decide)
                    have e4 : x 4 = .agg #[.int .i64 x6.kind, .string x6.key, .int .i64 x6.value, .slice A3e1 x6.list.length c3e1, .bool x6.has, .bool x6.isNil] := hx 4 (by decide) (by decide)
                    simp only [e0, e1, e2, e3, e4, e5]
                    clear hx
                    refine list_end ?_
                    refine block_norm ?_
                    refine then_norm ?_
                    refine wp_region_lit ?_
                    apply seq_op (V := .int .i64 (IntKind.i64.wrap ((k6 : Int) + 1))) rfl
                    · exact fun _ h => O_bin rfl rfl rfl eqg_int r_add h
                    (try simp only [PT])
                    apply seq_op (V := .int .i64 (IntKind.i64.wrap ((k6 : Int) + 1))) rfl
                    · exact fun _ h => O_mv rfl rfl h
                    (try simp only [PT])
                    refine list_end ?_
                    refine then_norm ?_
                    replace H := H.drop
                    refine ⟨⟨⟨rfl, rfl, rfl, rfl, rfl, rfl, rfl, rfl, rfl, rfl, rfl, rfl, rfl, rfl, rfl, rfl, rfl, rfl, rfl, rfl, rfl, rfl, rfl, rfl, rfl, rfl⟩, rfl⟩, ⟨k6 + 1, _, y6_c4_0, r_y6_c4_0, y6_c4_1, r_y6_c4_1, hd6'', wrap_succ hl6 hn6, hq6, H⟩, ?_⟩
                    exact meas_succ hl6 hn6
                · replace hq6 := ifF hg4 hq6
                  rcases Bool.eq_false_or_eq_true (x6.kind == 3) with hg5 | hg5
                  · replace hq6 := ifT hg5 hq6
                    refine wp_draw_C (k := 6) (sz := 54) [5] [.pointer (some ⟨b11, 0, none⟩), .int .i64 x6.kind, .pointer (some ⟨b9, 3, none⟩), .func (.func 138) #[.pointer (some ⟨br10, 0, none⟩)] #[], .agg #[.int .i64 x6.kind, .string x6.key, .int .i64 x6.value, .slice A3e1 x6.list.length c3e1, .bool x6.has, .bool x6.isNil], undef] [pt b11 (.cells #[.int .i64 x6.kind, .string x6.key, .int .i64 x6.value, .slice A3e1 x6.list.length c3e1, .bool x6.has, .bool x6.isNil] 108 (0, 0)), pt b9 (.cells #[.func (.func 136) #[] #[], .func (.func 137) #[.pointer (some ⟨br10, 0, none⟩)] #[], .func (.func 136) #[] #[], .func (.func 138) #[.pointer (some ⟨br10, 0, none⟩)] #[], .func (.func 136) #[] #[]] 162 (0, 0))] [fun w x => ∃ (rr3o0_lists : Nat) (rr3o0_regs : Nat), x 5 = .tuple #[] ∧ Holds E s (pt br10 (.cells #[.map (some rr3o0_lists), .map (some rr3o0_regs)] 91 (0, 0)) :: mpO kcS kI s rr3o0_lists ((model_State_write_f (⟨y6_c4_0, y6_c4_1⟩ : MSt) x6).lists) :: mpF kcS vcI rr3o0_regs ((model_State_write_f (⟨y6_c4_0, y6_c4_1⟩ : MSt) x6).regs) :: pt b11 (.cells #[.int .i64 x6.kind, .string x6.key, .int .i64 x6.value, .slice A3e1 x6.list.length c3e1, .bool x6.has, .bool x6.isNil] 108 (0, 0)) :: pt b9 (.cells #[.func (.func 136) #[] #[], .func (.func 137) #[.pointer (some ⟨br10, 0, none⟩)] #[], .func (.func 136) #[] #[], .func (.func 138) #[.pointer (some ⟨br10, 0, none⟩)] #[], .func (.func 136) #[] #[]] 162 (0, 0)) :: pt b_p0 (.cells #[.map (some r_p0_lists), .map (some r_p0_regs)] 91 (0, 0)) :: mpO kcS kI s r_p0_lists a0.lists :: mpF kcS vcI r_p0_regs a0.regs :: L) w] mixed (by simp) rfl (by kernel_rfl) (by kernel_rfl) (by kernel_rfl) (by simp) rfl H (by simp only [List.take_succ_cons, List.take_zero]; exact rfl) (by simp only [List.drop_succ_cons, List.drop_zero]; exact rfl)
                      (fun x => by simp only [ov, Act.put, List.setIfInBounds_toArray, List.set_cons_succ, List.set_cons_zero, Nat.zero_add, Nat.reduceAdd]; exact rfl) ?_ ?_ ?_ ?_
                    · refine ⟨?_, ?_, trivial⟩
                      · intro w x hS; have H : Holds E s (pt b11 (.cells #[.int .i64 x6.kind, .string x6.key, .int .i64 x6.value, .slice A3e1 x6.list.length c3e1, .bool x6.has, .bool x6.isNil] 108 (0, 0)) :: pt b9 (.cells #[.func (.func 136) #[] #[], .func (.func 137) #[.pointer (some ⟨br10, 0, none⟩)] #[], .func (.func 136) #[] #[], .func (.func 138) #[.pointer (some ⟨br10, 0, none⟩)] #[], .func (.func 136) #[] #[]] 162 (0, 0)) :: pt b_p0 (.cells #[.map (some r_p0_lists), .map (some r_p0_regs)] 91 (0, 0)) :: mpO kcS kI s r_p0_lists a0.lists :: mpF kcS vcI r_p0_regs a0.regs :: pt br10 (.cells #[.map (some r_y6_c4_0), .map (some r_y6_c4_1)] 91 (0, 0)) :: mpO kcS kI s r_y6_c4_0 y6_c4_0 :: mpF kcS vcI r_y6_c4_1 y6_c4_1 :: L) w := hS; replace H := H.front 1 rfl; simp only [List.eraseIdx_cons_succ, List.eraseIdx_cons_zero] at H; replace H := H.front 1 rfl; simp only [List.eraseIdx_cons_succ, List.eraseIdx_cons_zero] at H; exact ⟨_, _, Sub.refl _, H⟩
                      · intro w x hS; obtain ⟨rr3o0_lists, rr3o0_regs, e5, H⟩ := hS; replace H := H.front 4 rfl; simp only [List.eraseIdx_cons_succ, List.eraseIdx_cons_zero] at H; replace H := H.front 4 rfl; simp only [List.eraseIdx_cons_succ, List.eraseIdx_cons_zero] at H; exact ⟨_, _, Sub.refl _, H⟩
                    · refine ⟨?_, ?_, ?_, ?_, ?_, ?_, trivial⟩
                      · refine .inr ?_; intro s' R w' x Φ hs H hx hΦ; refine wantG rfl ?_; refine O_fld rfl Tryd.underlying108 rfl (Tryd.sizeOf3 _) rfl ?_; exact hΦ
                      · refine .inr ?_; intro s' R w' x Φ hs H hx hΦ; have e0 : x 0 = .pointer (some ⟨b11, 0, none⟩) := hx 0 (by decide) (by decide); simp only [e0]; refine wantG rfl ?_; refine L_1 0 _ _ rfl (Tryd.isAgg3 _) rfl H rfl rfl ?_; exact hΦ
                      · refine .inr ?_; intro s' R w' x Φ hs H hx hΦ; have e1 : x 1 = .int .i64 x6.kind := hx 1 (by decide) (by decide); simp only [e1]; refine wantG rfl ?_; refine O_ixA (k := 3) rfl Tryd.underlying162 (Tryd.sizeOf161 _) rfl rfl hg5 (by decide) ?_; exact hΦ
                      · refine .inr ?_; intro s' R w' x Φ hs H hx hΦ; have e2 : x 2 = .pointer (some ⟨b9, 3, none⟩) := hx 2 (by decide) (by decide); simp only [e2]; refine wantG rfl ?_; refine L_1 1 _ _ rfl (Tryd.isAgg161 _) rfl H rfl rfl ?_; exact hΦ
                      · refine .inr ?_; intro s' R w' x Φ hs H hx hΦ; refine wantG rfl ?_; refine G_pNi 0 _ _ rfl (Tryd.isAgg108 _) rfl H rfl (Tryd.sizeOf108 _) ?_; exact hΦ
                      · exact .inl (by decide)
                    · refine ⟨?_, trivial⟩
                      · intro o ho; obtain rfl := Option.some.inj ho; intro w' x Φ hS hx hΦ
                        have H : Holds E s (pt b11 (.cells #[.int .i64 x6.kind, .string x6.key, .int .i64 x6.value, .slice A3e1 x6.list.length c3e1, .bool x6.has, .bool x6.isNil] 108 (0, 0)) :: pt b9 (.cells #[.func (.func 136) #[] #[], .func (.func 137) #[.pointer (some ⟨br10, 0, none⟩)] #[], .func (.func 136) #[] #[], .func (.func 138) #[.pointer (some ⟨br10, 0, none⟩)] #[], .func (.func 136) #[] #[]] 162 (0, 0)) :: pt b_p0 (.cells #[.map (some r_p0_lists), .map (some r_p0_regs)] 91 (0, 0)) :: mpO kcS kI s r_p0_lists a0.lists :: mpF kcS vcI r_p0_regs a0.regs :: pt br10 (.cells #[.map (some r_y6_c4_0), .map (some r_y6_c4_1)] 91 (0, 0)) :: mpO kcS kI s r_y6_c4_0 y6_c4_0 :: mpF kcS vcI r_y6_c4_1 y6_c4_1 :: L) w' := hS; clear hS
                        have e3 : x 3 = .func (.func 138) #[.pointer (some ⟨br10, 0, none⟩)] #[] := hx 3 (by decide) (by decide)
                        have e4 : x 4 = .agg #[.int .i64 x6.kind, .string x6.key, .int .i64 x6.value, .slice A3e1 x6.list.length c3e1, .bool x6.has, .bool x6.isNil] := hx 4 (by decide) (by decide)
                        simp only [e3, e4]
                        refine wantG rfl ?_
                        replace H := H.front 7 rfl; simp only [List.eraseIdx_cons_succ, List.eraseIdx_cons_zero] at H
                        replace H := H.front 7 rfl; simp only [List.eraseIdx_cons_succ, List.eraseIdx_cons_zero] at H
                        replace H := H.front 7 rfl; simp only [List.eraseIdx_cons_succ, List.eraseIdx_cons_zero] at H
                        refine O_callb1 rfl Tryd.func138 rfl rfl rfl rfl ?_; refine (model_State_write_w (a0 := (⟨y6_c4_0, y6_c4_1⟩ : MSt)) (a1 := x6) (hz_p1_key := h1e1) (h_p1_list := h3e1) (H := H)).mono ?_
                        clear H
                        rintro e w1 ⟨rr3o0_lists, rr3o0_regs, rfl, H⟩; refine ⟨_, rfl, ?_⟩
                        exact hΦ _ _ ⟨rr3o0_lists, rr3o0_regs, updV_same, H⟩
                    · clear H
                      intro w' x hS hx
                      obtain ⟨rr3o0_lists, rr3o0_regs, e5, H⟩ := hS
                      have e0 : x 0 = .pointer (some ⟨b11, 0, none⟩) := hx 0 (by decide) (by decide)
                      have e1 : x 1 = .int .i64 x6.kind := hx 1 (by decide) (by decide)
                      have e2 : x 2 = .pointer (some ⟨b9, 3, none⟩) := hx 2 (by decide) (by decide)
                      have e3 : x 3 = .func (.func 138) #[.pointer (some ⟨br10, 0, none⟩)] #[] := hx 3 (by decide) (by decide)
                      have e4 : x 4 = .agg #[.int .i64 x6.kind, .string x6.key, .int .i64 x6.value, .slice A3e1 x6.list.length c3e1, .bool x6.has, .bool x6.isNil] := hx 4 (by decide) (by decide)
                      simp only [e0, e1, e2, e3, e4, e5]
                      clear hx
                      refine list_end ?_
                      refine block_norm ?_
                      refine then_norm ?_
                      refine wp_region_lit ?_
                      apply seq_op (V := .int .i64 (IntKind.i64.wrap ((k6 : Int) + 1))) rfl
                      · exact fun _ h => O_bin rfl rfl rfl eqg_int r_add h
                      (try simp only [PT])
                      apply seq_op (V := .int .i64 (IntKind.i64.wrap ((k6 : Int) + 1))) rfl
                      · exact fun _ h => O_mv rfl rfl h
                      (try simp only [PT])
                      refine list_end ?_
                      refine then_norm ?_
                      replace H := H.front 2 rfl; simp only [List.eraseIdx_cons_succ, List.eraseIdx_cons_zero] at H
                      replace H := H.front 2 rfl; simp only [List.eraseIdx_cons_succ, List.eraseIdx_cons_zero] at H
                      replace H := H.front 2 rfl; simp only [List.eraseIdx_cons_succ, List.eraseIdx_cons_zero] at H
                      replace H := H.front 7 rfl; simp only [List.eraseIdx_cons_succ, List.eraseIdx_cons_zero] at H
                      replace H := H.front 7 rfl; simp only [List.eraseIdx_cons_succ, List.eraseIdx_cons_zero] at H
                      replace H := H.front 7 rfl; simp only [List.eraseIdx_cons_succ, List.eraseIdx_cons_zero] at H
                      replace H := H.front 7 rfl; simp only [List.eraseIdx_cons_succ, List.eraseIdx_cons_zero] at H
                      replace H := H.dropAt 7 rfl; simp only [List.eraseIdx_cons_succ, List.eraseIdx_cons_zero] at H
                      refine ⟨⟨⟨rfl, rfl, rfl, rfl, rfl, rfl, rfl, rfl, rfl, rfl, rfl, rfl, rfl, rfl, rfl, rfl, rfl, rfl, rfl, rfl, rfl, rfl, rfl, rfl, rfl, rfl⟩, rfl⟩, ⟨k6 + 1, _, ((model_State_write_f (⟨y6_c4_0, y6_c4_1⟩ : MSt) x6).lists), rr3o0_lists, ((model_State_write_f (⟨y6_c4_0, y6_c4_1⟩ : MSt) x6).regs), rr3o0_regs, hd6'', wrap_succ hl6 hn6, hq6, H⟩, ?_⟩
                      exact meas_succ hl6 hn6
                  · replace hq6 := ifF hg5 hq6
                    rcases Bool.eq_false_or_eq_true (x6.kind == 4) with hg6 | hg6
                    · replace hq6 := ifT hg6 hq6
                      refine wp_draw_C (k := 6) (sz := 54) [5] [.pointer (some ⟨b11, 0, none⟩), .int .i64 x6.kind, .pointer (some ⟨b9, 4, none⟩), .func (.func 136) #[] #[], .agg #[.int .i64 x6.kind, .string x6.key, .int .i64 x6.value, .slice A3e1 x6.list.length c3e1, .bool x6.has, .bool x6.isNil], undef] [pt b11 (.cells #[.int .i64 x6.kind, .string x6.key, .int .i64 x6.value, .slice A3e1 x6.list.length c3e1, .bool x6.has, .bool x6.isNil] 108 (0, 0)), pt b9 (.cells #[.func (.func 136) #[] #[], .func (.func 137) #[.pointer (some ⟨br10, 0, none⟩)] #[], .func (.func 136) #[] #[], .func (.func 138) #[.pointer (some ⟨br10, 0, none⟩)] #[], .func (.func 136) #[] #[]] 162 (0, 0))] [fun w x => x 5 = .tuple #[] ∧ Holds E s (pt b11 (.cells #[.int .i64 x6.kind, .string x6.key, .int .i64 x6.value, .slice A3e1 x6.list.length c3e1, .bool x6.has, .bool x6.isNil] 108 (0, 0)) :: pt b9 (.cells #[.func (.func 136) #[] #[], .func (.func 137) #[.pointer (some ⟨br10, 0, none⟩)] #[], .func (.func 136) #[] #[], .func (.func 138) #[.pointer (some ⟨br10, 0, none⟩)] #[], .func (.func 136) #[] #[]] 162 (0, 0)) :: pt b_p0 (.cells #[.map (some r_p0_lists), .map (some r_p0_regs)] 91 (0, 0)) :: mpO kcS kI s r_p0_lists a0.lists :: mpF kcS vcI r_p0_regs a0.regs :: pt br10 (.cells #[.map (some r_y6_c4_0), .map (some r_y6_c4_1)] 91 (0, 0)) :: mpO kcS kI s r_y6_c4_0 y6_c4_0 :: mpF kcS vcI r_y6_c4_1 y6_c4_1 :: L) w] mixed (by simp) rfl (by kernel_rfl) (by kernel_rfl) (by kernel_rfl) (by simp) rfl H (by simp only [List.take_succ_cons, List.take_zero]; exact rfl) (by simp only [List.drop_succ_cons, List.drop_zero]; exact rfl)
                        (fun x => by simp only [ov, Act.put, List.setIfInBounds_toArray, List.set_cons_succ, List.set_cons_zero, Nat.zero_add, Nat.reduceAdd]; exact rfl) ?_ ?_ ?_ ?_
                      · refine ⟨?_, ?_, trivial⟩
                        · intro w x hS; have H : Holds E s (pt b11 (.cells #[.int .i64 x6.kind, .string x6.key, .int .i64 x6.value, .slice A3e1 x6.list.length c3e1, .bool x6.has, .bool x6.isNil] 108 (0, 0)) :: pt b9 (.cells #[.func (.func 136) #[] #[], .func (.func 137) #[.pointer (some ⟨br10, 0, none⟩)] #[], .func (.func 136) #[] #[], .func (.func 138) #[.pointer (some ⟨br10, 0, none⟩)] #[], .func (.func 136) #[] #[]] 162 (0, 0)) :: pt b_p0 (.cells #[.map (some r_p0_lists), .map (some r_p0_regs)] 91 (0, 0)) :: mpO kcS kI s r_p0_lists a0.lists :: mpF kcS vcI r_p0_regs a0.regs :: pt br10 (.cells #[.map (some r_y6_c4_0), .map (some r_y6_c4_1)] 91 (0, 0)) :: mpO kcS kI s r_y6_c4_0 y6_c4_0 :: mpF kcS vcI r_y6_c4_1 y6_c4_1 :: L) w := hS; replace H := H.front 1 rfl; simp only [List.eraseIdx_cons_succ, List.eraseIdx_cons_zero] at H; replace H := H.front 1 rfl; simp only [List.eraseIdx_cons_succ, List.eraseIdx_cons_zero] at H; exact ⟨_, _, Sub.refl _, H⟩
                        · intro w x hS; obtain ⟨e5, H⟩ := hS; replace H := H.front 1 rfl; simp only [List.eraseIdx_cons_succ, List.eraseIdx_cons_zero] at H; replace H := H.front 1 rfl; simp only [List.eraseIdx_cons_succ, List.eraseIdx_cons_zero] at H; exact ⟨_, _, Sub.refl _, H⟩
                      · refine ⟨?_, ?_, ?_, ?_, ?_, ?_, trivial⟩
                        · refine .inr ?_; intro s' R w' x Φ hs H hx hΦ; refine wantG rfl ?_; refine O_fld rfl Tryd.underlying108 rfl (Tryd.sizeOf3 _) rfl ?_; exact hΦ
                        · refine .inr ?_; intro s' R w' x Φ hs H hx hΦ; have e0 : x 0 = .pointer (some ⟨b11, 0, none⟩) := hx 0 (by decide) (by decide); simp only [e0]; refine wantG rfl ?_; refine L_1 0 _ _ rfl (Tryd.isAgg3 _) rfl H rfl rfl ?_; exact hΦ
                        · refine .inr ?_; intro s' R w' x Φ hs H hx hΦ; have e1 : x 1 = .int .i64 x6.kind := hx 1 (by decide) (by decide); simp only [e1]; refine wantG rfl ?_; refine O_ixA (k := 4) rfl Tryd.underlying162 (Tryd.sizeOf161 _) rfl rfl hg6 (by decide) ?_; exact hΦ
                        · refine .inr ?_; intro s' R w' x Φ hs H hx hΦ; have e2 : x 2 = .pointer (some ⟨b9, 4, none⟩) := hx 2 (by decide) (by decide); simp only [e2]; refine wantG rfl ?_; refine L_1 1 _ _ rfl (Tryd.isAgg161 _) rfl H rfl rfl ?_; exact hΦ
                        · refine .inr ?_; intro s' R w' x Φ hs H hx hΦ; refine wantG rfl ?_; refine G_pNi 0 _ _ rfl (Tryd.isAgg108 _) rfl H rfl (Tryd.sizeOf108 _) ?_; exact hΦ
                        · exact .inl (by decide)
                      · refine ⟨?_, trivial⟩
                        · intro o ho; obtain rfl := Option.some.inj ho; intro w' x Φ hS hx hΦ
                          have H : Holds E s (pt b11 (.cells #[.int .i64 x6.kind, .string x6.key, .int .i64 x6.value, .slice A3e1 x6.list.length c3e1, .bool x6.has, .bool x6.isNil] 108 (0, 0)) :: pt b9 (.cells #[.func (.func 136) #[] #[], .func (.func 137) #[.pointer (some ⟨br10, 0, none⟩)] #[], .func (.func 136) #[] #[], .func (.func 138) #[.pointer (some ⟨br10, 0, none⟩)] #[], .func (.func 136) #[] #[]] 162 (0, 0)) :: pt b_p0 (.cells #[.map (some r_p0_lists), .map (some r_p0_regs)] 91 (0, 0)) :: mpO kcS kI s r_p0_lists a0.lists :: mpF kcS vcI r_p0_regs a0.regs :: pt br10 (.cells #[.map (some r_y6_c4_0), .map (some r_y6_c4_1)] 91 (0, 0)) :: mpO kcS kI s r_y6_c4_0 y6_c4_0 :: mpF kcS vcI r_y6_c4_1 y6_c4_1 :: L) w' := hS; clear hS
                          have e3 : x 3 = .func (.func 136) #[] #[] := hx 3 (by decide) (by decide)
                          have e4 : x 4 = .agg #[.int .i64 x6.kind, .string x6.key, .int .i64 x6.value, .slice A3e1 x6.list.length c3e1, .bool x6.has, .bool x6.isNil] := hx 4 (by decide) (by decide)
                          simp only [e3, e4]
                          refine wantG rfl ?_
                          refine O_callv1 (args := #[.agg #[.int .i64 x6.kind, .string x6.key, .int .i64 x6.value, .slice A3e1 x6.list.length c3e1, .bool x6.has, .bool x6.isNil]]) (v1 := .agg #[.int .i64 x6.kind, .string x6.key, .int .i64 x6.value, .slice A3e1 x6.list.length c3e1, .bool x6.has, .bool x6.isNil]) rfl Tryd.func136 rfl rfl rfl rfl (by simp only [Array.append_empty]) ?_; refine (model_State_does_1_w (a0 := x6) (h_p0_list := h3e1) (H := H)).mono ?_
                          clear H
                          rintro e w1 ⟨rfl, H⟩; refine ⟨_, rfl, ?_⟩
                          exact hΦ _ _ ⟨updV_same, H⟩
                      · clear H
                        intro w' x hS hx
                        obtain ⟨e5, H⟩ := hS
                        have e0 : x 0 = .pointer (some ⟨b11, 0, none⟩) := hx 0 (by decide) (by decide)
                        have e1 : x 1 = .int .i64 x6.kind := hx 1 (by decide) (by decide)
                        have e2 : x 2 = .pointer (some ⟨b9, 4, none⟩) := hx 2 (by decide) (by decide)
                        have e3 : x 3 = .func (.func 136) #[] #[] := hx 3 (by decide) (by decide)
                        have e4 : x 4 = .agg #[.int .i64 x6.kind, .string x6.key, .int .i64 x6.value, .slice A3e1 x6.list.length c3e1, .bool x6.has, .bool x6.isNil] := hx 4 (by decide) (by decide)
                        simp only [e0, e1, e2, e3, e4, e5]
                        clear hx
                        refine list_end ?_
                        refine block_norm ?_
                        refine then_norm ?_
                        refine wp_region_lit ?_
                        apply seq_op (V := .int .i64 (IntKind.i64.wrap ((k6 : Int) + 1))) rfl
                        · exact fun _ h => O_bin rfl rfl rfl eqg_int r_add h
                        (try simp only [PT])
                        apply seq_op (V := .int .i64 (IntKind.i64.wrap ((k6 : Int) + 1))) rfl
                        · exact fun _ h => O_mv rfl rfl h
                        (try simp only [PT])
                        refine list_end ?_
                        refine then_norm ?_
                        replace H := H.drop
                        refine ⟨⟨⟨rfl, rfl, rfl, rfl, rfl, rfl, rfl, rfl, rfl, rfl, rfl, rfl, rfl, rfl, rfl, rfl, rfl, rfl, rfl, rfl, rfl, rfl, rfl, rfl, rfl, rfl⟩, rfl⟩, ⟨k6 + 1, _, y6_c4_0, r_y6_c4_0, y6_c4_1, r_y6_c4_1, hd6'', wrap_succ hl6 hn6, hq6, H⟩, ?_⟩
                        exact meas_succ hl6 hn6
                    · replace hq6 := ifF hg6 hq6
                      cases hq6
          · have hc3 := hc
            clear hc
            replace hq6 := ifF hc3 hq6
            refine wp_skip ?_
            refine block_norm ?_
            refine then_norm ?_
            refine wp_region_lit ?_
            apply seq_op (V := .int .i64 (IntKind.i64.wrap ((k6 : Int) + 1))) rfl
            · exact fun _ h => O_bin rfl rfl rfl eqg_int r_add h
            (try simp only [PT])
            apply seq_op (V := .int .i64 (IntKind.i64.wrap ((k6 : Int) + 1))) rfl
            · exact fun _ h => O_mv rfl rfl h
            (try simp only [PT])
            refine list_end ?_
            refine then_norm ?_
            replace H := H.drop
            refine ⟨⟨⟨rfl, rfl, rfl, rfl, rfl, rfl, rfl, rfl, rfl, rfl, rfl, rfl, rfl, rfl, rfl, rfl, rfl, rfl, rfl, rfl, rfl, rfl, rfl, rfl, rfl, rfl⟩, rfl⟩, ⟨k6 + 1, _, y6_c4_0, r_y6_c4_0, y6_c4_1, r_y6_c4_1, hd6'', wrap_succ hl6 hn6, hq6, H⟩, ?_⟩
            exact meas_succ hl6 hn6
      · replace hq6 := ifF hg1 hq6
        refine wp_region_lit ?_
        apply seq_op (V := .bool a2) rfl
        · exact fun _ h => O_mv rfl rfl h
        (try simp only [PT])
        apply seq_op (V := .bool (!a2)) rfl
        · exact fun _ h => O_not rfl rfl h
        (try simp only [PT])
        apply seq_op (V := .bool (!a2)) rfl
        · exact fun _ h => O_mv rfl rfl h
        (try simp only [PT])
        refine seq_skip ((wanted_t rfl rfl rfl).trans hg1) ?_
        (try simp only [PT])
        refine seq_skip ((wanted_t rfl rfl rfl).trans hg1) ?_
        (try simp only [PT])
        refine seq_skip ((wanted_t rfl rfl rfl).trans hg1) ?_
        (try simp only [PT])
        refine seq_skip ((wanted_t rfl rfl rfl).trans hg1) ?_
        (try simp only [PT])
        apply seq_op (V := .bool false) rfl
        · exact fun _ h => O_pickF rfl rfl hg1 rfl h
        (try simp only [PT])
        refine list_end ?_
        refine then_norm ?_
        refine wp_cond_false rfl ?_
        refine wp_skip ?_
        refine then_norm ?_
        refine wp_seq ?_
        refine wp_region_lit ?_
        apply seq_op (V := .pointer (some ⟨b11, 0, none⟩)) rfl
        · exact fun _ h => O_fld rfl Tryd.underlying108 rfl (Tryd.sizeOf3 _) rfl h
        (try simp only [PT])
        apply seq_op (V := .int .i64 x6.kind) rfl
        · exact fun _ h => L_1 0 _ _ rfl (Tryd.isAgg3 _) rfl H rfl rfl h
        (try simp only [PT])
        apply seq_op (V := .bool (decide (x6.kind > 0))) rfl
        · exact fun _ h => O_bin rfl rfl rfl eqg_int r_gtr h
        (try simp only [PT])
        apply seq_op (V := .bool (decide (x6.kind > 0))) rfl
        · exact fun _ h => O_mv rfl rfl h
        (try simp only [PT])
        refine seq_opg (c := (decide (x6.kind > 0))) (V := .pointer (some ⟨b11, 0, none⟩)) (by first | exact wanted_t rfl rfl rfl | exact wanted_vt rfl rfl rfl) ?_ ?_
        · intro hc Φ hΦ; refine O_fld rfl Tryd.underlying108 rfl (Tryd.sizeOf3 _) rfl ?_; exact hΦ
        (try simp only [PT])
        refine seq_opg (c := (decide (x6.kind > 0))) (V := .int .i64 x6.kind) (by first | exact wanted_t rfl rfl rfl | exact wanted_vt rfl rfl rfl) ?_ ?_
        · intro hc Φ hΦ; (repeat (first | rw [vg_of hc] | rw [vg_of (and_l hc)] | rw [vg_of (and_l (and_l hc))] | rw [vg_of (and_l (and_l (and_l hc)))] | rw [vg_and hc])); refine L_1 0 _ _ rfl (Tryd.isAgg3 _) rfl H rfl rfl ?_; exact hΦ
        (try simp only [PT])
        refine seq_opg (c := (decide (x6.kind > 0))) (V := .bool (decide (x6.kind < 5))) (by first | exact wanted_t rfl rfl rfl | exact wanted_vt rfl rfl rfl) ?_ ?_
        · intro hc Φ hΦ; (repeat (first | rw [vg_of hc] | rw [vg_of (and_l hc)] | rw [vg_of (and_l (and_l hc))] | rw [vg_of (and_l (and_l (and_l hc)))] | rw [vg_and hc])); refine O_bin rfl rfl rfl eqg_int r_lss ?_; exact hΦ
        (try simp only [PT])
        apply seq_op (V := .bool ((decide (x6.kind > 0)) && (decide (x6.kind < 5)))) rfl
        · exact fun _ h => G_and _ _ _ rfl rfl rfl rfl h
        (try simp only [PT])
        refine list_end ?_
        refine then_norm ?_
        refine wp_cond_split rfl (fun hc => ?_) (fun hc => ?_)
        · have hc2 := hc
          clear hc
          replace hq6 := ifT hc2 hq6
          rcases Bool.eq_false_or_eq_true (x6.kind == 0) with hg2 | hg2
          · replace hq6 := ifT hg2 hq6
            refine wp_draw_C (k := 6) (sz := 54) [5] [.pointer (some ⟨b11, 0, none⟩), .int .i64 x6.kind, .pointer (some ⟨b9, 0, none⟩), .func (.func 136) #[] #[], .agg #[.int .i64 x6.kind, .string x6.key, .int .i64 x6.value, .slice A3e1 x6.list.length c3e1, .bool x6.has, .bool x6.isNil], undef] [pt b11 (.cells #[.int .i64 x6.kind, .string x6.key, .int .i64 x6.value, .slice A3e1 x6.list.length c3e1, .bool x6.has, .bool x6.isNil] 108 (0, 0)), pt b9 (.cells #[.func (.func 136) #[] #[], .func (.func 137) #[.pointer (some ⟨br10, 0, none⟩)] #[], .func (.func 136) #[] #[], .func (.func 138) #[.pointer (some ⟨br10, 0, none⟩)] #[], .func (.func 136) #[] #[]] 162 (0, 0))] [fun w x => x 5 = .tuple #[] ∧ Holds E s (pt b11 (.cells #[.int .i64 x6.kind, .string x6.key, .int .i64 x6.value, .slice A3e1 x6.list.length c3e1, .bool x6.has, .bool x6.isNil] 108 (0, 0)) :: pt b9 (.cells #[.func (.func 136) #[] #[], .func (.func 137) #[.pointer (some ⟨br10, 0, none⟩)] #[], .func (.func 136) #[] #[], .func (.func 138) #[.pointer (some ⟨br10, 0, none⟩)] #[], .func (.func 136) #[] #[]] 162 (0, 0)) :: pt b_p0 (.cells #[.map (some r_p0_lists), .map (some r_p0_regs)] 91 (0, 0)) :: mpO kcS kI s r_p0_lists a0.lists :: mpF kcS vcI r_p0_regs a0.regs :: pt br10 (.cells #[.map (some r_y6_c4_0), .map (some r_y6_c4_1)] 91 (0, 0)) :: mpO kcS kI s r_y6_c4_0 y6_c4_0 :: mpF kcS vcI r_y6_c4_1 y6_c4_1 :: L) w] mixed (by simp) rfl (by kernel_rfl) (by kernel_rfl) (by kernel_rfl) (by simp) rfl H (by simp only [List.take_succ_cons, List.take_zero]; exact rfl) (by simp only [List.drop_succ_cons, List.drop_zero]; exact rfl)
              (fun x => by simp only [ov, Act.put, List.setIfInBounds_toArray, List.set_cons_succ, List.set_cons_zero, Nat.zero_add, Nat.reduceAdd]; exact rfl) ?_ ?_ ?_ ?_
            · refine ⟨?_, ?_, trivial⟩
              · intro w x hS; have H : Holds E s (pt b11 (.cells #[.int .i64 x6.kind, .string x6.key, .int .i64 x6.value, .slice A3e1 x6.list.length c3e1, .bool x6.has, .bool x6.isNil] 108 (0, 0)) :: pt b9 (.cells #[.func (.func 136) #[] #[], .func (.func 137) #[.pointer (some ⟨br10, 0, none⟩)] #[], .func (.func 136) #[] #[], .func (.func 138) #[.pointer (some ⟨br10, 0, none⟩)] #[], .func (.func 136) #[] #[]] 162 (0, 0)) :: pt b_p0 (.cells #[.map (some r_p0_lists), .map (some r_p0_regs)] 91 (0, 0)) :: mpO kcS kI s r_p0_lists a0.lists :: mpF kcS vcI r_p0_regs a0.regs :: pt br10 (.cells #[.map (some r_y6_c4_0), .map (some r_y6_c4_1)] 91 (0, 0)) :: mpO kcS kI s r_y6_c4_0 y6_c4_0 :: mpF kcS vcI r_y6_c4_1 y6_c4_1 :: L) w := hS; replace H := H.front 1 rfl; simp only [List.eraseIdx_cons_succ, List.eraseIdx_cons_zero] at H; replace H := H.front 1 rfl; simp only [List.eraseIdx_cons_succ, List.eraseIdx_cons_zero] at H; exact ⟨_, _, Sub.refl _, H⟩
              · intro w x hS; obtain ⟨e5, H⟩ := hS; replace H := H.front 1 rfl; simp only [List.eraseIdx_cons_succ, List.eraseIdx_cons_zero] at H; replace H := H.front 1 rfl; simp only [List.eraseIdx_cons_succ, List.eraseIdx_cons_zero] at H; exact ⟨_, _, Sub.refl _, H⟩
            · refine ⟨?_, ?_, ?_, ?_, ?_, ?_, trivial⟩
              · refine .inr ?_; intro s' R w' x Φ hs H hx hΦ; refine wantG rfl ?_; refine O_fld rfl Tryd.underlying108 rfl (Tryd.sizeOf3 _) rfl ?_; exact hΦ
              · refine .inr ?_; intro s' R w' x Φ hs H hx hΦ; have e0 : x 0 = .pointer (some ⟨b11, 0, none⟩) := hx 0 (by decide) (by decide); simp only [e0]; refine wantG rfl ?_; refine L_1 0 _ _ rfl (Tryd.isAgg3 _) rfl H rfl rfl ?_; exact hΦ
              · refine .inr ?_; intro s' R w' x Φ hs H hx hΦ; have e1 : x 1 = .int .i64 x6.kind := hx 1 (by decide) (by decide); simp only [e1]; refine wantG rfl ?_; refine O_ixA (k := 0) rfl Tryd.underlying162 (Tryd.sizeOf161 _) rfl rfl hg2 (by decide) ?_; exact hΦ
              · refine .inr ?_; intro s' R w' x Φ hs H hx hΦ; have e2 : x 2 = .pointer (some ⟨b9, 0, none⟩) := hx 2 (by decide) (by decide); simp only [e2]; refine wantG rfl ?_; refine L_1 1 _ _ rfl (Tryd.isAgg161 _) rfl H rfl rfl ?_; exact hΦ
              · refine .inr ?_; intro s' R w' x Φ hs H hx hΦ; refine wantG rfl ?_; refine G_pNi 0 _ _ rfl (Tryd.isAgg108 _) rfl H rfl (Tryd.sizeOf108 _) ?_; exact hΦ
              · exact .inl (by decide)
            · refine ⟨?_, trivial⟩
              · intro o ho; obtain rfl := Option.some.inj ho; intro w' x Φ hS hx hΦ
                have H : Holds E s (pt b11 (.cells #[.int .i64 x6.kind, .string x6.key, .int .i64 x6.value, .slice A3e1 x6.list.length c3e1, .bool x6.has, .bool x6.isNil] 108 (0, 0)) :: pt b9 (.cells #[.func (.func 136) #[] #[], .func (.func 137) #[.pointer (some ⟨br10, 0, none⟩)] #[], .func (.func 136) #[] #[], .func (.func 138) #[.pointer (some ⟨br10, 0, none⟩)] #[], .func (.func 136) #[] #[]] 162 (0, 0)) :: pt b_p0 (.cells #[.map (some r_p0_lists), .map (some r_p0_regs)] 91 (0, 0)) :: mpO kcS kI s r_p0_lists a0.lists :: mpF kcS vcI r_p0_regs a0.regs :: pt br10 (.cells #[.map (some r_y6_c4_0), .map (some r_y6_c4_1)] 91 (0, 0)) :: mpO kcS kI s r_y6_c4_0 y6_c4_0 :: mpF kcS vcI r_y6_c4_1 y6_c4_1 :: L) w' := hS; clear hS
                have e3 : x 3 = .func (.func 136) #[] #[] := hx 3 (by decide) (by decide)
                have e4 : x 4 = .agg #[.int .i64 x6.kind, .string x6.key, .int .i64 x6.value, .slice A3e1 x6.list.length c3e1, .bool x6.has, .bool x6.isNil] := hx 4 (by decide) (by decide)
                simp only [e3, e4]
                refine wantG rfl ?_
                refine O_callv1 (args := #[.agg #[.int .i64 x6.kind, .string x6.key, .int .i64 x6.value, .slice A3e1 x6.list.length c3e1, .bool x6.has, .bool x6.isNil]]) (v1 := .agg #[.int .i64 x6.kind, .string x6.key, .int .i64 x6.value, .slice A3e1 x6.list.length c3e1, .bool x6.has, .bool x6.isNil]) rfl Tryd.func136 rfl rfl rfl rfl (by simp only [Array.append_empty]) ?_; refine (model_State_does_1_w (a0 := x6) (h_p0_list := h3e1) (H := H)).mono ?_
                clear H
                rintro e w1 ⟨rfl, H⟩; refine ⟨_, rfl, ?_⟩
                exact hΦ _ _ ⟨updV_same, H⟩
            · clear H
              intro w' x hS hx
              obtain ⟨e5, H⟩ := hS
              have e0 : x 0 = .pointer (some ⟨b11, 0, none⟩) := hx 0 (by decide) (by decide)
              have e1 : x 1 = .int .i64 x6.kind := hx 1 (by decide) (by decide)
              have e2 : x 2 = .pointer (some ⟨b9, 0, none⟩) := hx 2 (by decide) (by decide)
              have e3 : x 3 = .func (.func 136) #[] #[] := hx 3 (by decide) (by decide)
              have e4 : x 4 = .agg #[.int .i64 x6.kind, .string x6.key, .int .i64 x6.value, .slice A3e1 x6.list.length c3e1, .bool x6.has, .bool x6.isNil] := hx 4 (by decide) (by decide)
              simp only [e0, e1, e2, e3, e4, e5]
              clear hx
              refine list_end ?_
              refine block_norm ?_
              refine then_norm ?_
              refine wp_region_lit ?_
              apply seq_op (V := .int .i64 (IntKind.i64.wrap ((k6 : Int) + 1))) rfl
              · exact fun _ h => O_bin rfl rfl rfl eqg_int r_add h
              (try simp only [PT])
              apply seq_op (V := .int .i64 (IntKind.i64.wrap ((k6 : Int) + 1))) rfl
              · exact fun _ h => O_mv rfl rfl h
              (try simp only [PT])
              refine list_end ?_
              refine then_norm ?_
              replace H := H.drop
              refine ⟨⟨⟨rfl, rfl, rfl, rfl, rfl, rfl, rfl, rfl, rfl, rfl, rfl, rfl, rfl, rfl, rfl, rfl, rfl, rfl, rfl, rfl, rfl, rfl, rfl, rfl, rfl, rfl⟩, rfl⟩, ⟨k6 + 1, _, y6_c4_0, r_y6_c4_0, y6_c4_1, r_y6_c4_1, hd6'', wrap_succ hl6 hn6, hq6, H⟩, ?_⟩
              exact meas_succ hl6 hn6
          · replace hq6 := ifF hg2 hq6
            rcases Bool.eq_false_or_eq_true (x6.kind == 1) with hg3 | hg3
            · replace hq6 := ifT hg3 hq6
              obtain ⟨u1, gx1, hq6⟩ := bs hq6
              refine wp_draw_C (k := 6) (sz := 54) [5] [.pointer (some ⟨b11, 0, none⟩), .int .i64 x6.kind, .pointer (some ⟨b9, 1, none⟩), .func (.func 137) #[.pointer (some ⟨br10, 0, none⟩)] #[], .agg #[.int .i64 x6.kind, .string x6.key, .int .i64 x6.value, .slice A3e1 x6.list.length c3e1, .bool x6.has, .bool x6.isNil], undef] [pt b11 (.cells #[.int .i64 x6.kind, .string x6.key, .int .i64 x6.value, .slice A3e1 x6.list.length c3e1, .bool x6.has, .bool x6.isNil] 108 (0, 0)), pt b9 (.cells #[.func (.func 136) #[] #[], .func (.func 137) #[.pointer (some ⟨br10, 0, none⟩)] #[], .func (.func 136) #[] #[], .func (.func 138) #[.pointer (some ⟨br10, 0, none⟩)] #[], .func (.func 136) #[] #[]] 162 (0, 0))] [fun w x => ∃ (rr3o0_lists : Nat) (rr3o0_regs : Nat), x 5 = .tuple #[] ∧ Holds E s (pt br10 (.cells #[.map (some rr3o0_lists), .map (some rr3o0_regs)] 91 (0, 0)) :: mpO kcS kI s rr3o0_lists u1.lists :: mpF kcS vcI rr3o0_regs u1.regs :: pt b11 (.cells #[.int .i64 x6.kind, .string x6.key, .int .i64 x6.value, .slice A3e1 x6.list.length c3e1, .bool x6.has, .bool x6.isNil] 108 (0, 0)) :: pt b9 (.cells #[.func (.func 136) #[] #[], .func (.func 137) #[.pointer (some ⟨br10, 0, none⟩)] #[], .func (.func 136) #[] #[], .func (.func 138) #[.pointer (some ⟨br10, 0, none⟩)] #[], .func (.func 136) #[] #[]] 162 (0, 0)) :: pt b_p0 (.cells #[.map (some r_p0_lists), .map (some r_p0_regs)] 91 (0, 0)) :: mpO kcS kI s r_p0_lists a0.lists :: mpF kcS vcI r_p0_regs a0.regs :: L) w] mixed (by simp) rfl (by kernel_rfl) (by kernel_rfl) (by kernel_rfl) (by simp) rfl H (by simp only [List.take_succ_cons, List.take_zero]; exact rfl) (by simp only [List.drop_succ_cons, List.drop_zero]; exact rfl)
                (fun x => by simp only [ov, Act.put, List.setIfInBounds_toArray, List.set_cons_succ, List.set_cons_zero, Nat.zero_add, Nat.reduceAdd]; exact rfl) ?_ ?_ ?_ ?_
              · refine ⟨?_, ?_, trivial⟩
                · intro w x hS; have H : Holds E s (pt b11 (.cells #[.int .i64 x6.kind, .string x6.key, .int .i64 x6.value, .slice A3e1 x6.list.length c3e1, .bool x6.has, .bool x6.isNil] 108 (0, 0)) :: pt b9 (.cells #[.func (.func 136) #[] #[], .func (.func 137) #[.pointer (some ⟨br10, 0, none⟩)] #[], .func (.func 136) #[] #[], .func (.func 138) #[.pointer (some ⟨br10, 0, none⟩)] #[], .func (.func 136) #[] #[]] 162 (0, 0)) :: pt b_p0 (.cells #[.map (some r_p0_lists), .map (some r_p0_regs)] 91 (0, 0)) :: mpO kcS kI s r_p0_lists a0.lists :: mpF kcS vcI r_p0_regs a0.regs :: pt br10 (.cells #[.map (some r_y6_c4_0), .map (some r_y6_c4_1)] 91 (0, 0)) :: mpO kcS kI s r_y6_c4_0 y6_c4_0 :: mpF kcS vcI r_y6_c4_1 y6_c4_1 :: L) w := hS; replace H := H.front 1 rfl; simp only [List.eraseIdx_cons_succ, List.eraseIdx_cons_zero] at H; replace H := H.front 1 rfl; simp only [List.eraseIdx_cons_succ, List.eraseIdx_cons_zero] at H; exact ⟨_, _, Sub.refl _, H⟩
                · intro w x hS; obtain ⟨rr3o0_lists, rr3o0_regs, e5, H⟩ := hS; replace H := H.front 4 rfl; simp only [List.eraseIdx_cons_succ, List.eraseIdx_cons_zero] at H; replace H := H.front 4 rfl; simp only [List.eraseIdx_cons_succ, List.eraseIdx_cons_zero] at H; exact ⟨_, _, Sub.refl _, H⟩
              · refine ⟨?_, ?_, ?_, ?_, ?_, ?_, trivial⟩
                · refine .inr ?_; intro s' R w' x Φ hs H hx hΦ; refine wantG rfl ?_; refine O_fld rfl Tryd.underlying108 rfl (Tryd.sizeOf3 _) rfl ?_; exact hΦ
                · refine .inr ?_; intro s' R w' x Φ hs H hx hΦ; have e0 : x 0 = .pointer (some ⟨b11, 0, none⟩) := hx 0 (by decide) (by decide); simp only [e0]; refine wantG rfl ?_; refine L_1 0 _ _ rfl (Tryd.isAgg3 _) rfl H rfl rfl ?_; exact hΦ
                · refine .inr ?_; intro s' R w' x Φ hs H hx hΦ; have e1 : x 1 = .int .i64 x6.kind := hx 1 (by decide) (by decide); simp only [e1]; refine wantG rfl ?_; refine O_ixA (k := 1) rfl Tryd.underlying162 (Tryd.sizeOf161 _) rfl rfl hg3 (by decide) ?_; exact hΦ
                · refine .inr ?_; intro s' R w' x Φ hs H hx hΦ; have e2 : x 2 = .pointer (some ⟨b9, 1, none⟩) := hx 2 (by decide) (by decide); simp only [e2]; refine wantG rfl ?_; refine L_1 1 _ _ rfl (Tryd.isAgg161 _) rfl H rfl rfl ?_; exact hΦ
                · refine .inr ?_; intro s' R w' x Φ hs H hx hΦ; refine wantG rfl ?_; refine G_pNi 0 _ _ rfl (Tryd.isAgg108 _) rfl H rfl (Tryd.sizeOf108 _) ?_; exact hΦ
                · exact .inl (by decide)
              · refine ⟨?_, trivial⟩
                · intro o ho; obtain rfl := Option.some.inj ho; intro w' x Φ hS hx hΦ
                  have H : Holds E s (pt b11 (.cells #[.int .i64 x6.kind, .string x6.key, .int .i64 x6.value, .slice A3e1 x6.list.length c3e1, .bool x6.has, .bool x6.isNil] 108 (0, 0)) :: pt b9 (.cells #[.func (.func 136) #[] #[], .func (.func 137) #[.pointer (some ⟨br10, 0, none⟩)] #[], .func (.func 136) #[] #[], .func (.func 138) #[.pointer (some ⟨br10, 0, none⟩)] #[], .func (.func 136) #[] #[]] 162 (0, 0)) :: pt b_p0 (.cells #[.map (some r_p0_lists), .map (some r_p0_regs)] 91 (0, 0)) :: mpO kcS kI s r_p0_lists a0.lists :: mpF kcS vcI r_p0_regs a0.regs :: pt br10 (.cells #[.map (some r_y6_c4_0), .map (some r_y6_c4_1)] 91 (0, 0)) :: mpO kcS kI s r_y6_c4_0 y6_c4_0 :: mpF kcS vcI r_y6_c4_1 y6_c4_1 :: L) w' := hS; clear hS
                  have e3 : x 3 = .func (.func 137) #[.pointer (some ⟨br10, 0, none⟩)] #[] := hx 3 (by decide) (by decide)
                  have e4 : x 4 = .agg #[.int .i64 x6.kind, .string x6.key, .int .i64 x6.value, .slice A3e1 x6.list.length c3e1, .bool x6.has, .bool x6.isNil] := hx 4 (by decide) (by decide)
                  simp only [e3, e4]
                  refine wantG rfl ?_
                  replace H := H.front 7 rfl; simp only [List.eraseIdx_cons_succ, List.eraseIdx_cons_zero] at H
                  replace H := H.front 7 rfl; simp only [List.eraseIdx_cons_succ, List.eraseIdx_cons_zero] at H
                  replace H := H.front 7 rfl; simp only [List.eraseIdx_cons_succ, List.eraseIdx_cons_zero] at H
                  refine O_callb1 rfl Tryd.func137 rfl rfl rfl rfl ?_; refine (model_State_append_w (a0 := (⟨y6_c4_0, y6_c4_1⟩ : MSt)) (a1 := x6) (hz_p1_key := h1e1) (hr_p1_value := h2e1) (h_p1_list := h3e1) (hm := gx1) (H := H)).mono ?_
                  clear H
                  rintro e w1 ⟨rr3o0_lists, rr3o0_regs, rfl, H⟩; refine ⟨_, rfl, ?_⟩
                  exact hΦ _ _ ⟨rr3o0_lists, rr3o0_regs, updV_same, H⟩
              · clear H
                intro w' x hS hx
                obtain ⟨rr3o0_lists, rr3o0_regs, e5, H⟩ := hS
                have e0 : x 0 = .pointer (some ⟨b11, 0, none⟩) := hx 0 (by decide) (by decide)
                have e1 : x 1 = .int .i64 x6.kind := hx 1 (by decide) (by decide)
                have e2 : x 2 = .pointer (some ⟨b9, 1, none⟩) := hx 2 (by decide) (by decide)
                have e3 : x 3 = .func (.func 137) #[.pointer (some ⟨br10, 0, none⟩)] #[] := hx 3 (by decide) (by decide)
                have e4 : x 4 = .agg #[.int .i64 x6.kind, .string x6.key, .int .i64 x6.value, .slice A3e1 x6.list.length c3e1, .bool x6.has, .bool x6.isNil] := hx 4 (by decide) (by decide)
                simp only [e0, e1, e2, e3, e4, e5]
                clear hx
                refine list_end ?_
                refine block_norm ?_
                refine then_norm ?_
                refine wp_region_lit ?_
                apply seq_op (V := .int .i64 (IntKind.i64.wrap ((k6 : Int) + 1))) rfl
                · exact fun _ h => O_bin rfl rfl rfl eqg_int r_add h
                (try simp only [PT])
                apply seq_op (V := .int .i64 (IntKind.i64.wrap ((k6 : Int) + 1))) rfl
                · exact fun _ h => O_mv rfl rfl h
                (try simp only [PT])
                refine list_end ?_
                refine then_norm ?_
                replace H := H.front 2 rfl; simp only [List.eraseIdx_cons_succ, List.eraseIdx_cons_zero] at H
                replace H := H.front 2 rfl; simp only [List.eraseIdx_cons_succ, List.eraseIdx_cons_zero] at H
                replace H := H.front 2 rfl; simp only [List.eraseIdx_cons_succ, List.eraseIdx_cons_zero] at H
                replace H := H.front 7 rfl; simp only [List.eraseIdx_cons_succ, List.eraseIdx_cons_zero] at H
                replace H := H.front 7 rfl; simp only [List.eraseIdx_cons_succ, List.eraseIdx_cons_zero] at H
                replace H := H.front 7 rfl; simp only [List.eraseIdx_cons_succ, List.eraseIdx_cons_zero] at H
                replace H := H.front 7 rfl; simp only [List.eraseIdx_cons_succ, List.eraseIdx_cons_zero] at H
                replace H := H.dropAt 7 rfl; simp only [List.eraseIdx_cons_succ, List.eraseIdx_cons_zero] at H
                refine ⟨⟨⟨rfl, rfl, rfl, rfl, rfl, rfl, rfl, rfl, rfl, rfl, rfl, rfl, rfl, rfl, rfl, rfl, rfl, rfl, rfl, rfl, rfl, rfl, rfl, rfl, rfl, rfl⟩, rfl⟩, ⟨k6 + 1, _, u1.lists, rr3o0_lists, u1.regs, rr3o0_regs, hd6'', wrap_succ hl6 hn6, hq6, H⟩, ?_⟩
                exact meas_succ hl6 hn6
            · replace hq6 := ifF hg3 hq6
              rcases Bool.eq_false_or_eq_true (x6.kind == 2) with hg4 | hg4
              · replace hq6 := ifT hg4 hq6
                refine wp_draw_C (k := 6) (sz := 54) [5] [.pointer (some ⟨b11, 0, none⟩), .int .i64 x6.kind, .pointer (some ⟨b9, 2, none⟩), .func (.func 136) #[] #[], .agg #[.int .i64 x6.kind, .string x6.key, .int .i64 x6.value, .slice A3e1 x6.list.length c3e1, .bool x6.has, .bool x6.isNil], undef] [pt b11 (.cells #[.int .i64 x6.kind, .string x6.key, .int .i64 x6.value, .slice A3e1 x6.list.length c3e1, .bool x6.has, .bool x6.isNil] 108 (0, 0)), pt b9 (.cells #[.func (.func 136) #[] #[], .func (.func 137) #[.pointer (some ⟨br10, 0, none⟩)] #[], .func (.func 136) #[] #[], .func (.func 138) #[.pointer (some ⟨br10, 0, none⟩)] #[], .func (.func 136) #[] #[]] 162 (0, 0))] [fun w x => x 5 = .tuple #[] ∧ Holds E s (pt b11 (.cells #[.int .i64 x6.kind, .string x6.key, .int .i64 x6.value, .slice A3e1 x6.list.length c3e1, .bool x6.has, .bool x6.isNil] 108 (0, 0)) :: pt b9 (.cells #[.func (.func 136) #[] #[], .func (.func 137) #[.pointer (some ⟨br10, 0, none⟩)] #[], .func (.func 136) #[] #[], .func (.func 138) #[.pointer (some ⟨br10, 0, none⟩)] #[], .func (.func 136) #[] #[]] 162 (0, 0)) :: pt b_p0 (.cells #[.map (some r_p0_lists), .map (some r_p0_regs)] 91 (0, 0)) :: mpO kcS kI s r_p0_lists a0.lists :: mpF kcS vcI r_p0_regs a0.regs :: pt br10 (.cells #[.map (some r_y6_c4_0), .map (some r_y6_c4_1)] 91 (0, 0)) :: mpO kcS kI s r_y6_c4_0 y6_c4_0 :: mpF kcS vcI r_y6_c4_1 y6_c4_1 :: L) w] mixed (by simp) rfl (by kernel_rfl) (by kernel_rfl) (by kernel_rfl) (by simp) rfl H (by simp only [List.take_succ_cons, List.take_zero]; exact rfl) (by simp only [List.drop_succ_cons, List.drop_zero]; exact rfl)
                  (fun x => by simp only [ov, Act.put, List.setIfInBounds_toArray, List.set_cons_succ, List.set_cons_zero, Nat.zero_add, Nat.reduceAdd]; exact rfl) ?_ ?_ ?_ ?_
                · refine ⟨?_, ?_, trivial⟩
                  · intro w x hS; have H : Holds E s (pt b11 (.cells #[.int .i64 x6.kind, .string x6.key, .int .i64 x6.value, .slice A3e1 x6.list.length c3e1, .bool x6.has, .bool x6.isNil] 108 (0, 0)) :: pt b9 (.cells #[.func (.func 136) #[] #[], .func (.func 137) #[.pointer (some ⟨br10, 0, none⟩)] #[], .func (.func 136) #[] #[], .func (.func 138) #[.pointer (some ⟨br10, 0, none⟩)] #[], .func (.func 136) #[] #[]] 162 (0, 0)) :: pt b_p0 (.cells #[.map (some r_p0_lists), .map (some r_p0_regs)] 91 (0, 0)) :: mpO kcS kI s r_p0_lists a0.lists :: mpF kcS vcI r_p0_regs a0.regs :: pt br10 (.cells #[.map (some r_y6_c4_0), .map (some r_y6_c4_1)] 91 (0, 0)) :: mpO kcS kI s r_y6_c4_0 y6_c4_0 :: mpF kcS vcI r_y6_c4_1 y6_c4_1 :: L) w := hS; replace H := H.front 1 rfl; simp only [List.eraseIdx_cons_succ, List.eraseIdx_cons_zero] at H; replace H := H.front 1 rfl; simp only [List.eraseIdx_cons_succ, List.eraseIdx_cons_zero] at H; exact ⟨_, _, Sub.refl _, H⟩
                  · intro w x hS; obtain ⟨e5, H⟩ := hS; replace H := H.front 1 rfl; simp only [List.eraseIdx_cons_succ, List.eraseIdx_cons_zero] at H; replace H := H.front 1 rfl; simp only [List.eraseIdx_cons_succ, List.eraseIdx_cons_zero] at H; exact ⟨_, _, Sub.refl _, H⟩
                · refine ⟨?_, ?_, ?_, ?_, ?_, ?_, trivial⟩
                  · refine .inr ?_; intro s' R w' x Φ hs H hx hΦ; refine wantG rfl ?_; refine O_fld rfl Tryd.underlying108 rfl (Tryd.sizeOf3 _) rfl ?_; exact hΦ
                  · refine .inr ?_; intro s' R w' x Φ hs H hx hΦ; have e0 : x 0 = .pointer (some ⟨b11, 0, none⟩) := hx 0 (by decide) (by decide); simp only [e0]; refine wantG rfl ?_; refine L_1 0 _ _ rfl (Tryd.isAgg3 _) rfl H rfl rfl ?_; exact hΦ
                  · refine .inr ?_; intro s' R w' x Φ hs H hx hΦ; have e1 : x 1 = .int .i64 x6.kind := hx 1 (by decide) (by decide); simp only [e1]; refine wantG rfl ?_; refine O_ixA (k := 2) rfl Tryd.underlying162 (Tryd.sizeOf161 _) rfl rfl hg4 (by decide) ?_; exact hΦ
                  · refine .inr ?_; intro s' R w' x Φ hs H hx hΦ; have e2 : x 2 = .pointer (some ⟨b9, 2, none⟩) := hx 2 (by decide) (by decide); simp only [e2]; refine wantG rfl ?_; refine L_1 1 _ _ rfl (Tryd.isAgg161 _) rfl H rfl rfl ?_; exact hΦ
                  · refine .inr ?_; intro s' R w' x Φ hs H hx hΦ; refine wantG rfl ?_; refine G_pNi 0 _ _ rfl (Tryd.isAgg108 _) rfl H rfl (Tryd.sizeOf108 _) ?_; exact hΦ
                  · exact .inl (by decide)
                · refine ⟨?_, trivial⟩
                  · intro o ho; obtain rfl := Option.some.inj ho; intro w' x Φ hS hx hΦ
                    have H : Holds E s (pt b11 (.cells #[.int .i64 x6.kind, .string x6.key, .int .i64 x6.value, .slice A3e1 x6.list.length c3e1, .bool x6.has, .bool x6.isNil] 108 (0, 0)) :: pt b9 (.cells #[.func (.func 136) #[] #[], .func (.func 137) #[.pointer (some ⟨br10, 0, none⟩)] #[], .func (.func 136) #[] #[], .func (.func 138) #[.pointer (some ⟨br10, 0, none⟩)] #[], .func (.func 136) #[] #[]] 162 (0, 0)) :: pt b_p0 (.cells #[.map (some r_p0_lists), .map (some r_p0_regs)] 91 (0, 0)) :: mpO kcS kI s r_p0_lists a0.lists :: mpF kcS vcI r_p0_regs a0.regs :: pt br10 (.cells #[.map (some r_y6_c4_0), .map (some r_y6_c4_1)] 91 (0, 0)) :: mpO kcS kI s r_y6_c4_0 y6_c4_0 :: mpF kcS vcI r_y6_c4_1 y6_c4_1 :: L) w' := hS; clear hS
                    have e3 : x 3 = .func (.func 136) #[] #[] := hx 3 (by decide) (by decide)
                    have e4 : x 4 = .agg #[.int .i64 x6.kind, .string x6.key, .int .i64 x6.value, .slice A3e1 x6.list.length c3e1, .bool x6.has, .bool x6.isNil] := hx 4 (by decide) (by decide)
                    simp only [e3, e4]
                    refine wantG rfl ?_
                    refine O_callv1 (args := #[.agg #[.int .i64 x6.kind, .string x6.key, .int .i64 x6.value, .slice A3e1 x6.list.length c3e1, .bool x6.has, .bool x6.isNil]]) (v1 := .agg #[.int .i64 x6.kind, .string x6.key, .int .i64 x6.value, .slice A3e1 x6.list.length c3e1, .bool x6.has, .bool x6.isNil]) rfl Tryd.func136 rfl rfl rfl rfl (by simp only [Array.append_empty]) ?_; refine (model_State_does_1_w (a0 := x6) (h_p0_list := h3e1) (H := H)).mono ?_
                    clear H
                    rintro e w1 ⟨rfl, H⟩; refine ⟨_, rfl, ?_⟩
                    exact hΦ _ _ ⟨updV_same, H⟩
                · clear H
                  intro w' x hS hx
                  obtain ⟨e5, H⟩ := hS
                  have e0 : x 0 = .pointer (some ⟨b11, 0, none⟩) := hx 0 (by decide) (by decide)
                  have e1 : x 1 = .int .i64 x6.kind := hx 1 (by decide) (by decide)
                  have e2 : x 2 = .pointer (some ⟨b9, 2, none⟩) := hx 2 (by decide) (by decide)
                  have e3 : x 3 = .func (.func 136) #[] #[] := hx 3 (by decide) (by decide)
                  have e4 : x 4 = .agg #[.int .i64 x6.kind, .string x6.key, .int .i64 x6.value, .slice A3e1 x6.list.length c3e1, .bool x6.has, .bool x6.isNil] := hx 4 (by decide) (by decide)
                  simp only [e0, e1, e2, e3, e4, e5]
                  clear hx
                  refine list_end ?_
                  refine block_norm ?_
                  refine then_norm ?_
                  refine wp_region_lit ?_
                  apply seq_op (V := .int .i64 (IntKind.i64.wrap ((k6 : Int) + 1))) rfl
                  · exact fun _ h => O_bin rfl rfl rfl eqg_int r_add h
                  (try simp only [PT])
                  apply seq_op (V := .int .i64 (IntKind.i64.wrap ((k6 : Int) + 1))) rfl
                  · exact fun _ h => O_mv rfl rfl h
                  (try simp only [PT])
                  refine list_end ?_
                  refine then_norm ?_
                  replace H := H.drop
                  refine ⟨⟨⟨rfl, rfl, rfl, rfl, rfl, rfl, rfl, rfl, rfl, rfl, rfl, rfl, rfl, rfl, rfl, rfl, rfl, rfl, rfl, rfl, rfl, rfl, rfl, rfl, rfl, rfl⟩, rfl⟩, ⟨k6 + 1, _, y6_c4_0, r_y6_c4_0, y6_c4_1, r_y6_c4_1, hd6'', wrap_succ hl6 hn6, hq6, H⟩, ?_⟩
                  exact meas_succ hl6 hn6
              · replace hq6 := ifF hg4 hq6
                rcases Bool.eq_false_or_eq_true (x6.kind == 3) with hg5 | hg5
                · replace hq6 := ifT hg5 hq6
                  refine wp_draw_C (k := 6) (sz := 54) [5] [.pointer (some ⟨b11, 0, none⟩), .int .i64 x6.kind, .pointer (some ⟨b9, 3, none⟩), .func (.func 138) #[.pointer (some ⟨br10, 0, none⟩)] #[], .agg #[.int .i64 x6.kind, .string x6.key, .int .i64 x6.value, .slice A3e1 x6.list.length c3e1, .bool x6.has, .bool x6.isNil], undef] [pt b11 (.cells #[.int .i64 x6.kind, .string x6.key, .int .i64 x6.value, .slice A3e1 x6.list.length c3e1, .bool x6.has, .bool x6.isNil] 108 (0, 0)), pt b9 (.cells #[.func (.func 136) #[] #[], .func (.func 137) #[.pointer (some ⟨br10, 0, none⟩)] #[], .func (.func 136) #[] #[], .func (.func 138) #[.pointer (some ⟨br10, 0, none⟩)] #[], .func (.func 136) #[] #[]] 162 (0, 0))] [fun w x => ∃ (rr3o0_lists : Nat) (rr3o0_regs : Nat), x 5 = .tuple #[] ∧ Holds E s (pt br10 (.cells #[.map (some rr3o0_lists), .map (some rr3o0_regs)] 91 (0, 0)) :: mpO kcS kI s rr3o0_lists ((model_State_write_f (⟨y6_c4_0, y6_c4_1⟩ : MSt) x6).lists) :: mpF kcS vcI rr3o0_regs ((model_State_write_f (⟨y6_c4_0, y6_c4_1⟩ : MSt) x6).regs) :: pt b11 (.cells #[.int .i64 x6.kind, .string x6.key, .int .i64 x6.value, .slice A3e1 x6.list.length c3e1, .bool x6.has, .bool x6.isNil] 108 (0, 0)) :: pt b9 (.cells #[.func (.func 136) #[] #[], .func (.func 137) #[.pointer (some ⟨br10, 0, none⟩)] #[], .func (.func 136) #[] #[], .func (.func 138) #[.pointer (some ⟨br10, 0, none⟩)] #[], .func (.func 136) #[] #[]] 162 (0, 0)) :: pt b_p0 (.cells #[.map (some r_p0_lists), .map (some r_p0_regs)] 91 (0, 0)) :: mpO kcS kI s r_p0_lists a0.lists :: mpF kcS vcI r_p0_regs a0.regs :: L) w] mixed (by simp) rfl (by kernel_rfl) (by kernel_rfl) (by kernel_rfl) (by simp) rfl H (by simp only [List.take_succ_cons, List.take_zero]; exact rfl) (by simp only [List.drop_succ_cons, List.drop_zero]; exact rfl)
                    (fun x => by simp only [ov, Act.put, List.setIfInBounds_toArray, List.set_cons_succ, List.set_cons_zero, Nat.zero_add, Nat.reduceAdd]; exact rfl) ?_ ?_ ?_ ?_
                  · refine ⟨?_, ?_, trivial⟩
                    · intro w x hS; have H : Holds E s (pt b11 (.cells #[.int .i64 x6.kind, .string x6.key, .int .i64 x6.value, .slice A3e1 x6.list.length c3e1, .bool x6.has, .bool x6.isNil] 108 (0, 0)) :: pt b9 (.cells #[.func (.func 136) #[] #[], .func (.func 137) #[.pointer (some ⟨br10, 0, none⟩)] #[], .func (.func 136) #[] #[], .func (.func 138) #[.pointer (some ⟨br10, 0, none⟩)] #[], .func (.func 136) #[] #[]] 162 (0, 0)) :: pt b_p0 (.cells #[.map (some r_p0_lists), .map (some r_p0_regs)] 91 (0, 0)) :: mpO kcS kI s r_p0_lists a0.lists :: mpF kcS vcI r_p0_regs a0.regs :: pt br10 (.cells #[.map (some r_y6_c4_0), .map (some r_y6_c4_1)] 91 (0, 0)) :: mpO kcS kI s r_y6_c4_0 y6_c4_0 :: mpF kcS vcI r_y6_c4_1 y6_c4_1 :: L) w := hS; replace H := H.front 1 rfl; simp only [List.eraseIdx_cons_succ, List.eraseIdx_cons_zero] at H; replace H := H.front 1 rfl; simp only [List.eraseIdx_cons_succ, List.eraseIdx_cons_zero] at H; exact ⟨_, _, Sub.refl _, H⟩
                    · intro w x hS; obtain ⟨rr3o0_lists, rr3o0_regs, e5, H⟩ := hS; replace H := H.front 4 rfl; simp only [List.eraseIdx_cons_succ, List.eraseIdx_cons_zero] at H; replace H := H.front 4 rfl; simp only [List.eraseIdx_cons_succ, List.eraseIdx_cons_zero] at H; exact ⟨_, _, Sub.refl _, H⟩
                  · refine ⟨?_, ?_, ?_, ?_, ?_, ?_, trivial⟩
                    · refine .inr ?_; intro s' R w' x Φ hs H hx hΦ; refine wantG rfl ?_; refine O_fld rfl Tryd.underlying108 rfl (Tryd.sizeOf3 _) rfl ?_; exact hΦ
                    · refine .inr ?_; intro s' R w' x Φ hs H hx hΦ; have e0 : x 0 = .pointer (some ⟨b11, 0, none⟩) := hx 0 (by decide) (by decide); simp only [e0]; refine wantG rfl ?_; refine L_1 0 _ _ rfl (Tryd.isAgg3 _) rfl H rfl rfl ?_; exact hΦ
                    · refine .inr ?_; intro s' R w' x Φ hs H hx hΦ; have e1 : x 1 = .int .i64 x6.kind := hx 1 (by decide) (by decide); simp only [e1]; refine wantG rfl ?_; refine O_ixA (k := 3) rfl Tryd.underlying162 (Tryd.sizeOf161 _) rfl rfl hg5 (by decide) ?_; exact hΦ
                    · refine .inr ?_; intro s' R w' x Φ hs H hx hΦ; have e2 : x 2 = .pointer (some ⟨b9, 3, none⟩) := hx 2 (by decide) (by decide); simp only [e2]; refine wantG rfl ?_; refine L_1 1 _ _ rfl (Tryd.isAgg161 _) rfl H rfl rfl ?_; exact hΦ
                    · refine .inr ?_; intro s' R w' x Φ hs H hx hΦ; refine wantG rfl ?_; refine G_pNi 0 _ _ rfl (Tryd.isAgg108 _) rfl H rfl (Tryd.sizeOf108 _) ?_; exact hΦ
                    · exact .inl (by decide)
                  · refine ⟨?_, trivial⟩
                    · intro o ho; obtain rfl := Option.some.inj ho; intro w' x Φ hS hx hΦ
                      have H : Holds E s (pt b11 (.cells #[.int .i64 x6.kind, .string x6.key, .int .i64 x6.value, .slice A3e1 x6.list.length c3e1, .bool x6.has, .bool x6.isNil] 108 (0, 0)) :: pt b9 (.cells #[.func (.func 136) #[] #[], .func (.func 137) #[.pointer (some ⟨br10, 0, none⟩)] #[], .func (.func 136) #[] #[], .func (.func 138) #[.pointer (some ⟨br10, 0, none⟩)] #[], .func (.func 136) #[] #[]] 162 (0, 0)) :: pt b_p0 (.cells #[.map (some r_p0_lists), .map (some r_p0_regs)] 91 (0, 0)) :: mpO kcS kI s r_p0_lists a0.lists :: mpF kcS vcI r_p0_regs a0.regs :: pt br10 (.cells #[.map (some r_y6_c4_0), .map (some r_y6_c4_1)] 91 (0, 0)) :: mpO kcS kI s r_y6_c4_0 y6_c4_0 :: mpF kcS vcI r_y6_c4_1 y6_c4_1 :: L) w' := hS; clear hS
                      have e3 : x 3 = .func (.func 138) #[.pointer (some ⟨br10, 0, none⟩)] #[] := hx 3 (by decide) (by decide)
                      have e4 : x 4 = .agg #[.int .i64 x6.kind, .string x6.key, .int .i64 x6.value, .slice A3e1 x6.list.length c3e1, .bool x6.has, .bool x6.isNil] := hx 4 (by decide) (by decide)
                      simp only [e3, e4]
                      refine wantG rfl ?_
                      replace H := H.front 7 rfl; simp only [List.eraseIdx_cons_succ, List.eraseIdx_cons_zero] at H
                      replace H := H.front 7 rfl; simp only [List.eraseIdx_cons_succ, List.eraseIdx_cons_zero] at H
                      replace H := H.front 7 rfl; simp only [List.eraseIdx_cons_succ, List.eraseIdx_cons_zero] at H
                      refine O_callb1 rfl Tryd.func138 rfl rfl rfl rfl ?_; refine (model_State_write_w (a0 := (⟨y6_c4_0, y6_c4_1⟩ : MSt)) (a1 := x6) (hz_p1_key := h1e1) (h_p1_list := h3e1) (H := H)).mono ?_
                      clear H
                      rintro e w1 ⟨rr3o0_lists, rr3o0_regs, rfl, H⟩; refine ⟨_, rfl, ?_⟩
                      exact hΦ _ _ ⟨rr3o0_lists, rr3o0_regs, updV_same, H⟩
                  · clear H
                    intro w' x hS hx
                    obtain ⟨rr3o0_lists, rr3o0_regs, e5, H⟩ := hS
                    have e0 : x 0 = .pointer (some ⟨b11, 0, none⟩) := hx 0 (by decide) (by decide)
                    have e1 : x 1 = .int .i64 x6.kind := hx 1 (by decide) (by decide)
                    have e2 : x 2 = .pointer (some ⟨b9, 3, none⟩) := hx 2 (by decide) (by decide)
                    have e3 : x 3 = .func (.func 138) #[.pointer (some ⟨br10, 0, none⟩)] #[] := hx 3 (by decide) (by decide)
                    have e4 : x 4 = .agg #[.int .i64 x6.kind, .string x6.key, .int .i64 x6.value, .slice A3e1 x6.list.length c3e1, .bool x6.has, .bool x6.isNil] := hx 4 (by decide) (by decide)
                    simp only [e0, e1, e2, e3, e4, e5]
                    clear hx
                    refine list_end ?_
                    refine block_norm ?_
                    refine then_norm ?_
                    refine wp_region_lit ?_
                    apply seq_op (V := .int .i64 (IntKind.i64.wrap ((k6 : Int) + 1))) rfl
                    · exact fun _ h => O_bin rfl rfl rfl eqg_int r_add h
                    (try simp only [PT])
                    apply seq_op (V := .int .i64 (IntKind.i64.wrap ((k6 : Int) + 1))) rfl
                    · exact fun _ h => O_mv rfl rfl h
                    (try simp only [PT])
                    refine list_end ?_
                    refine then_norm ?_
                    replace H := H.front 2 rfl; simp only [List.eraseIdx_cons_succ, List.eraseIdx_cons_zero] at H
                    replace H := H.front 2 rfl; simp only [List.eraseIdx_cons_succ, List.eraseIdx_cons_zero] at H
                    replace H := H.front 2 rfl; simp only [List.eraseIdx_cons_succ, List.eraseIdx_cons_zero] at H
                    replace H := H.front 7 rfl; simp only [List.eraseIdx_cons_succ, List.eraseIdx_cons_zero] at H
                    replace H := H.front 7 rfl; simp only [List.eraseIdx_cons_succ, List.eraseIdx_cons_zero] at H
                    replace H := H.front 7 rfl; simp only [List.eraseIdx_cons_succ, List.eraseIdx_cons_zero] at H
                    replace H := H.front 7 rfl; simp only [List.eraseIdx_cons_succ, List.eraseIdx_cons_zero] at H
                    replace H := H.dropAt 7 rfl; simp only [List.eraseIdx_cons_succ, List.eraseIdx_cons_zero] at H
                    refine ⟨⟨⟨rfl, rfl, rfl, rfl, rfl, rfl, rfl, rfl, rfl, rfl, rfl, rfl, rfl, rfl, rfl, rfl, rfl, rfl, rfl, rfl, rfl, rfl, rfl, rfl, rfl, rfl⟩, rfl⟩, ⟨k6 + 1, _, ((model_State_write_f (⟨y6_c4_0, y6_c4_1⟩ : MSt) x6).lists), rr3o0_lists, ((model_State_write_f (⟨y6_c4_0, y6_c4_1⟩ : MSt) x6).regs), rr3o0_regs, hd6'', wrap_succ hl6 hn6, hq6, H⟩, ?_⟩
                    exact meas_succ hl6 hn6
                · replace hq6 := ifF hg5 hq6
                  rcases Bool.eq_false_or_eq_true (x6.kind == 4) with hg6 | hg6
                  · replace hq6 := ifT hg6 hq6
                    refine wp_draw_C (k := 6) (sz := 54) [5] [.pointer (some ⟨b11, 0, none⟩), .int .i64 x6.kind, .pointer (some ⟨b9, 4, none⟩), .func (.func 136) #[] #[], .agg #[.int .i64 x6.kind, .string x6.key, .int .i64 x6.value, .slice A3e1 x6.list.length c3e1, .bool x6.has, .bool x6.isNil], undef] [pt b11 (.cells #[.int .i64 x6.kind, .string x6.key, .int .i64 x6.value, .slice A3e1 x6.list.length c3e1, .bool x6.has, .bool x6.isNil] 108 (0, 0)), pt b9 (.cells #[.func (.func 136) #[] #[], .func (.func 137) #[.pointer (some ⟨br10, 0, none⟩)] #[], .func (.func 136) #[] #[], .func (.func 138) #[.pointer (some ⟨br10, 0, none⟩)] #[], .func (.func 136) #[] #[]] 162 (0, 0))] [fun w x => x 5 = .tuple #[] ∧ Holds E s (pt b11 (.cells #[.int .i64 x6.kind, .string x6.key, .int .i64 x6.value, .slice A3e1 x6.list.length c3e1, .bool x6.has, .bool x6.isNil] 108 (0, 0)) :: pt b9 (.cells #[.func (.func 136) #[] #[], .func (.func 137) #[.pointer (some ⟨br10, 0, none⟩)] #[], .func (.func 136) #[] #[], .func (.func 138) #[.pointer (some ⟨br10, 0, none⟩)] #[], .func (.func 136) #[] #[]] 162 (0, 0)) :: pt b_p0 (.cells #[.map (some r_p0_lists), .map (some r_p0_regs)] 91 (0, 0)) :: mpO kcS kI s r_p0_lists a0.lists :: mpF kcS vcI r_p0_regs a0.regs :: pt br10 (.cells #[.map (some r_y6_c4_0), .map (some r_y6_c4_1)] 91 (0, 0)) :: mpO kcS kI s r_y6_c4_0 y6_c4_0 :: mpF kcS vcI r_y6_c4_1 y6_c4_1 :: L) w] mixed (by simp) rfl (by kernel_rfl) (by kernel_rfl) (by kernel_rfl) (by simp) rfl H (by simp only [List.take_succ_cons, List.take_zero]; exact rfl) (by simp only [List.drop_succ_cons, List.drop_zero]; exact rfl)
                      (fun x => by simp only [ov, Act.put, List.setIfInBounds_toArray, List.set_cons_succ, List.set_cons_zero, Nat.zero_add, Nat.reduceAdd]; exact rfl) ?_ ?_ ?_ ?_
                    · refine ⟨?_, ?_, trivial⟩
                      · intro w x hS; have H : Holds E s (pt b11 (.cells #[.int .i64 x6.kind, .string x6.key, .int .i64 x6.value, .slice A3e1 x6.list.length c3e1, .bool x6.has, .bool x6.isNil] 108 (0, 0)) :: pt b9 (.cells #[.func (.func 136) #[] #[], .func (.func 137) #[.pointer (some ⟨br10, 0, none⟩)] #[], .func (.func 136) #[] #[], .func (.func 138) #[.pointer (some ⟨br10, 0, none⟩)] #[], .func (.func 136) #[] #[]] 162 (0, 0)) :: pt b_p0 (.cells #[.map (some r_p0_lists), .map (some r_p0_regs)] 91 (0, 0)) :: mpO kcS kI s r_p0_lists a0.lists :: mpF kcS vcI r_p0_regs a0.regs :: pt br10 (.cells #[.map (some r_y6_c4_0), .map (some r_y6_c4_1)] 91 (0, 0)) :: mpO kcS kI s r_y6_c4_0 y6_c4_0 :: mpF kcS vcI r_y6_c4_1 y6_c4_1 :: L) w := hS; replace H := H.front 1 rfl; simp only [List.eraseIdx_cons_succ, List.eraseIdx_cons_zero] at H; replace H := H.front 1 rfl; simp only [List.eraseIdx_cons_succ, List.eraseIdx_cons_zero] at H; exact ⟨_, _, Sub.refl _, H⟩
                      · intro w x hS; obtain ⟨e5, H⟩ := hS; replace H := H.front 1 rfl; simp only [List.eraseIdx_cons_succ, List.eraseIdx_cons_zero] at H; replace H := H.front 1 rfl; simp only [List.eraseIdx_cons_succ, List.eraseIdx_cons_zero] at H; exact ⟨_, _, Sub.refl _, H⟩
                    · refine ⟨?_, ?_, ?_, ?_, ?_, ?_, trivial⟩
                      · refine .inr ?_; intro s' R w' x Φ hs H hx hΦ; refine wantG rfl ?_; refine O_fld rfl Tryd.underlying108 rfl (Tryd.sizeOf3 _) rfl ?_; exact hΦ
                      · refine .inr ?_; intro s' R w' x Φ hs H hx hΦ; have e0 : x 0 = .pointer (some ⟨b11, 0, none⟩) := hx 0 (by decide) (by decide); simp only [e0]; refine wantG rfl ?_; refine L_1 0 _ _ rfl (Tryd.isAgg3 _) rfl H rfl rfl ?_; exact hΦ
                      · refine .inr ?_; intro s' R w' x Φ hs H hx hΦ; have e1 : x 1 = .int .i64 x6.kind := hx 1 (by decide) (by decide); simp only [e1]; refine wantG rfl ?_; refine O_ixA (k := 4) rfl Tryd.underlying162 (Tryd.sizeOf161 _) rfl rfl hg6 (by decide) ?_; exact hΦ
                      · refine .inr ?_; intro s' R w' x Φ hs H hx hΦ; have e2 : x 2 = .pointer (some ⟨b9, 4, none⟩) := hx 2 (by decide) (by decide); simp only [e2]; refine wantG rfl ?_; refine L_1 1 _ _ rfl (Tryd.isAgg161 _) rfl H rfl rfl ?_; exact hΦ
                      · refine .inr ?_; intro s' R w' x Φ hs H hx hΦ; refine wantG rfl ?_; refine G_pNi 0 _ _ rfl (Tryd.isAgg108 _) rfl H rfl (Tryd.sizeOf108 _) ?_; exact hΦ
                      · exact .inl (by decide)
                    · refine ⟨?_, trivial⟩
                      · intro o ho; obtain rfl := Option.some.inj ho; intro w' x Φ hS hx hΦ
                        have H : Holds E s (pt b11 (.cells #[.int .i64 x6.kind, .string x6.key, .int .i64 x6.value, .slice A3e1 x6.list.length c3e1, .bool x6.has, .bool x6.isNil] 108 (0, 0)) :: pt b9 (.cells #[.func (.func 136) #[] #[], .func (.func 137) #[.pointer (some ⟨br10, 0, none⟩)] #[], .func (.func 136) #[] #[], .func (.func 138) #[.pointer (some ⟨br10, 0, none⟩)] #[], .func (.func 136) #[] #[]] 162 (0, 0)) :: pt b_p0 (.cells #[.map (some r_p0_lists), .map (some r_p0_regs)] 91 (0, 0)) :: mpO kcS kI s r_p0_lists a0.lists :: mpF kcS vcI r_p0_regs a0.regs :: pt br10 (.cells #[.map (some r_y6_c4_0), .map (some r_y6_c4_1)] 91 (0, 0)) :: mpO kcS kI s r_y6_c4_0 y6_c4_0 :: mpF kcS vcI r_y6_c4_1 y6_c4_1 :: L) w' := hS; clear hS
                        have e3 : x 3 = .func (.func 136) #[] #[] := hx 3 (by decide) (by decide)
                        have e4 : x 4 = .agg #[.int .i64 x6.kind, .string x6.key, .int .i64 x6.value, .slice A3e1 x6.list.length c3e1, .bool x6.has, .bool x6.isNil] := hx 4 (by decide) (by decide)
                        simp only [e3, e4]
                        refine wantG rfl ?_
                        refine O_callv1 (args := #[.agg #[.int .i64 x6.kind, .string x6.key, .int .i64 x6.value, .slice A3e1 x6.list.length c3e1, .bool x6.has, .bool x6.isNil]]) (v1 := .agg #[.int .i64 x6.kind, .string x6.key, .int .i64 x6.value, .slice A3e1 x6.list.length c3e1, .bool x6.has, .bool x6.isNil]) rfl Tryd.func136 rfl rfl rfl rfl (by simp only [Array.append_empty]) ?_; refine (model_State_does_1_w (a0 := x6) (h_p0_list := h3e1) (H := H)).mono ?_
                        clear H
                        rintro e w1 ⟨rfl, H⟩; refine ⟨_, rfl, ?_⟩
                        exact hΦ _ _ ⟨updV_same, H⟩
                    · clear H
                      intro w' x hS hx
                      obtain ⟨e5, H⟩ := hS
                      have e0 : x 0 = .pointer (some ⟨b11, 0, none⟩) := hx 0 (by decide) (by decide)
                      have e1 : x 1 = .int .i64 x6.kind := hx 1 (by decide) (by decide)
                      have e2 : x 2 = .pointer (some ⟨b9, 4, none⟩) := hx 2 (by decide) (by decide)
                      have e3 : x 3 = .func (.func 136) #[] #[] := hx 3 (by decide) (by decide)
                      have e4 : x 4 = .agg #[.int .i64 x6.kind, .string x6.key, .int .i64 x6.value, .slice A3e1 x6.list.length c3e1, .bool x6.has, .bool x6.isNil] := hx 4 (by decide) (by decide)
                      simp only [e0, e1, e2, e3, e4, e5]
                      clear hx
                      refine list_end ?_
                      refine block_norm ?_
                      refine then_norm ?_
                      refine wp_region_lit ?_
                      apply seq_op (V := .int .i64 (IntKind.i64.wrap ((k6 : Int) + 1))) rfl
                      · exact fun _ h => O_bin rfl rfl rfl eqg_int r_add h
                      (try simp only [PT])
                      apply seq_op (V := .int .i64 (IntKind.i64.wrap ((k6 : Int) + 1))) rfl
                      · exact fun _ h => O_mv rfl rfl h
                      (try simp only [PT])
                      refine list_end ?_
                      refine then_norm ?_
                      replace H := H.drop
                      refine ⟨⟨⟨rfl, rfl, rfl, rfl, rfl, rfl, rfl, rfl, rfl, rfl, rfl, rfl, rfl, rfl, rfl, rfl, rfl, rfl, rfl, rfl, rfl, rfl, rfl, rfl, rfl, rfl⟩, rfl⟩, ⟨k6 + 1, _, y6_c4_0, r_y6_c4_0, y6_c4_1, r_y6_c4_1, hd6'', wrap_succ hl6 hn6, hq6, H⟩, ?_⟩
                      exact meas_succ hl6 hn6
                  · replace hq6 := ifF hg6 hq6
                    cases hq6
        · have hc2 := hc
          clear hc
          replace hq6 := ifF hc2 hq6
          refine wp_skip ?_
          refine block_norm ?_
          refine then_norm ?_
          refine wp_region_lit ?_
          apply seq_op (V := .int .i64 (IntKind.i64.wrap ((k6 : Int) + 1))) rfl
          · exact fun _ h => O_bin rfl rfl rfl eqg_int r_add h
          (try simp only [PT])
          apply seq_op (V := .int .i64 (IntKind.i64.wrap ((k6 : Int) + 1))) rfl
          · exact fun _ h => O_mv rfl rfl h
          (try simp only [PT])
          refine list_end ?_
          refine then_norm ?_
          replace H := H.drop
          refine ⟨⟨⟨rfl, rfl, rfl, rfl, rfl, rfl, rfl, rfl, rfl, rfl, rfl, rfl, rfl, rfl, rfl, rfl, rfl, rfl, rfl, rfl, rfl, rfl, rfl, rfl, rfl, rfl⟩, rfl⟩, ⟨k6 + 1, _, y6_c4_0, r_y6_c4_0, y6_c4_1, r_y6_c4_1, hd6'', wrap_succ hl6 hn6, hq6, H⟩, ?_⟩
          exact meas_succ hl6 hn6
    · have hc1 := hc
      clear hc
      obtain rfl := rng_f hd6 hc1
      rw [model_State_Apply_l6] at hq6
      refine wp_exit ?_
      refine then_exit ?_
      refine then_exit ?_
      have hq6 := Option.some.inj hq6
      subst hq6
      (try dsimp only at hm)
      refine block_exit ?_
      refine then_norm ?_
      refine wp_seq ?_
      refine wp_region_lit ?_
      apply seq_op (V := .pointer (some ⟨b_p0, 0, none⟩)) rfl
      · exact fun _ h => O_mv rfl rfl h
      (try simp only [PT])
      apply seq_op (V := .pointer (some ⟨br10, 0, none⟩)) rfl
      · exact fun _ h => O_mv rfl rfl h
      (try simp only [PT])
      apply seq_op (V := .pointer (some ⟨br10, 0, none⟩)) rfl
      · exact fun _ h => O_nil rfl rfl h
      (try simp only [PT])
      apply seq_op (V := .agg #[.map (some r_y6_c4_0), .map (some r_y6_c4_1)]) rfl
      · exact fun _ h => G_pNi 4 _ _ rfl (Tryd.isAgg91 _) rfl H rfl (Tryd.sizeOf91 _) h
      (try simp only [PT])
      apply seq_op (V := .pointer (some ⟨b_p0, 0, none⟩)) rfl
      · exact fun _ h => O_nil rfl rfl h
      (try simp only [PT])
      refine OpG.list rfl ?_; refine G_setNi 1 (c := [.map (some r_y6_c4_0), .map (some r_y6_c4_1)]) _ _ _ rfl (Tryd.sizeOf91 _) rfl rfl (by simp [Value.oneCell']) H rfl rfl ?_; clear H; intro w1 H; simp only [List.set_cons_succ, List.set_cons_zero] at H
      (try simp only [PT])
      refine list_end ?_
      refine then_norm ?_
      refine wp_seq ?_
      refine wp_region_lit ?_
      apply seq_op (V := .bool true) rfl
      · exact fun _ h => O_as rfl rfl h
      (try simp only [PT])
      refine list_end ?_
      refine then_norm ?_
      refine wp_ret ?_
      have hm := Option.some.inj hm
      subst hm
      replace H := H.front 6 rfl; simp only [List.eraseIdx_cons_succ, List.eraseIdx_cons_zero] at H
      replace H := H.front 6 rfl; simp only [List.eraseIdx_cons_succ, List.eraseIdx_cons_zero] at H
      replace H := H.front 3 rfl; simp only [List.eraseIdx_cons_succ, List.eraseIdx_cons_zero] at H
      replace H := H.dropAt 6 rfl; simp only [List.eraseIdx_cons_succ, List.eraseIdx_cons_zero] at H
      replace H := H.dropAt 5 rfl; simp only [List.eraseIdx_cons_succ, List.eraseIdx_cons_zero] at H
      replace H := H.dropAt 4 rfl; simp only [List.eraseIdx_cons_succ, List.eraseIdx_cons_zero] at H
      replace H := H.dropAt 3 rfl; simp only [List.eraseIdx_cons_succ, List.eraseIdx_cons_zero] at H
      exact ret1 rfl (rv_tmp rfl) rfl ⟨r_y6_c4_0, r_y6_c4_1, rfl, H⟩
end Go.Proofs.YtemdmpgekegfhaaDoor
