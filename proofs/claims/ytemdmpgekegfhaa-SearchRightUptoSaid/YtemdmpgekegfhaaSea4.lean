/- Walks, printed by fx.py: part 4. -/
import Derived.Test.YtemdmpgekegfhaaSea3
namespace Go.Proofs.Ytemdmpgekegfhaa
open Go.RowKit
set_option linter.all false
set_option maxRecDepth 10000
def assayerref16_Replay_l8 (x3 : Int) : Nat → List Int → (Bool ⊕ Unit)
  | k8, []  => .inr ()
  | k8, x8 :: r8 => if (x8 == x3) = true then (.inl false) else (assayerref16_Replay_l8 x3 (k8 + 1) r8)

def assayerref16_Replay_l3 (fuel : Nat) (a0 : List Txn) (a1 : List Int) : Nat → List Int → (List Op') → Option ((Bool ⊕ ((List Op') × (List Op'))))
  | k3, [] , y3_c1_0 => some (.inr (y3_c1_0, y3_c1_0))
  | k3, x3 :: r3, y3_c1_0 => if ((decide (x3 < 0)) || (decide (x3 ≥ (a0.length : Int)))) = true then (some (.inl false)) else ((sliJ a1 (k3 : Int)).bind fun u1 => letF (assayerref16_Replay_l8 x3 0 u1) fun | .inl z8_r => (some (.inl z8_r)) | .inr () => ((rdI a0 x3).bind fun u2 => (assayerref16_State_Apply_f fuel (⟨y3_c1_0⟩ : St16) u2.ops (u2.state == 3)).bind fun u3 => if (!u3.1) = true then (some (.inl false)) else (assayerref16_Replay_l3 fuel a0 a1 (k3 + 1) r3 u3.2.l)))

def assayerref16_Replay_f (fuel : Nat) (a0 : List Txn) (a1 : List Int) : Option Bool := (assayerref16_Replay_l3 fuel a0 a1 0 a1 []).bind fun | .inl z3_r => (some z3_r) | .inr (z3_c1_0, z3_p0) => (some true)

set_option maxHeartbeats 4000000 in
theorem assayerref16_Replay_w {E : World} {s : SH} {L : List HP} {w : World} {fuel : Nat} {a0 : List Txn} {a1 : List Int} {A_p0 : Option Addr} {c_p0 : Nat} (h_p0 : kT.Sl s (.slice A_p0 a0.length c_p0) a0) {A_p1 : Option Addr} {c_p1 : Nat} (h_p1 : kI.Sl s (.slice A_p1 a1.length c_p1) a1) {R : Bool} (hm : assayerref16_Replay_f fuel a0 a1 = some R) (H : Holds E s (L) w) :
    Calls Try.prog 33 #[.slice A_p0 a0.length c_p0, .slice A_p1 a1.length c_p1] w fun e w' => e = .returned (.bool R) ∧ Holds E s (L) w' := by
  unfold assayerref16_Replay_f at hm
  go_enter Try.func33, Try.ntmps33
  refine wp_seq ?_
  refine wp_region_lit ?_
  apply seq_op (V := .bool false) rfl
  · intro Φ hΦ; refine O_as rfl rfl ?_; exact hΦ
  (try simp only [Act.put, List.setIfInBounds_toArray, List.set_cons_succ, List.set_cons_zero])
  refine list_end ?_
  refine then_norm ?_
  refine wp_seq ?_
  refine wp_region_lit ?_
  apply seq_op (V := .agg #[.slice none 0 0]) rfl
  · intro Φ hΦ; refine O_bld (cs := [.slice none 0 0]) rfl (by kernel_rfl) ?_; exact hΦ
  (try simp only [Act.put, List.setIfInBounds_toArray, List.set_cons_succ, List.set_cons_zero])
  refine OpG.list rfl ?_; refine B_x 61 _ rfl (v := .agg #[.slice none 0 0]) rfl H ?_; clear H; intro b11 w1 H; (try simp only [Value.cells] at H)
  (try simp only [Act.put, List.setIfInBounds_toArray, List.set_cons_succ, List.set_cons_zero])
  replace H := Kin.Osl.nil (d := kOp.sh s) H
  apply seq_op (V := .pointer (some ⟨b11, 0, none⟩)) rfl
  · intro Φ hΦ; refine O_as rfl rfl ?_; exact hΦ
  (try simp only [Act.put, List.setIfInBounds_toArray, List.set_cons_succ, List.set_cons_zero])
  refine list_end ?_
  refine then_norm ?_
  refine wp_seq ?_
  refine wp_seq ?_
  refine wp_region_lit ?_
  apply seq_op (V := .slice A_p1 a1.length c_p1) rfl
  · intro Φ hΦ; refine O_mv rfl rfl ?_; exact hΦ
  (try simp only [Act.put, List.setIfInBounds_toArray, List.set_cons_succ, List.set_cons_zero])
  apply seq_op (V := .int .i64 (a1.length : Int)) rfl
  · intro Φ hΦ; refine O_len rfl Try.underlying33 rfl ?_; exact hΦ
  (try simp only [Act.put, List.setIfInBounds_toArray, List.set_cons_succ, List.set_cons_zero])
  apply seq_op (V := .int .i64 0) rfl
  · intro Φ hΦ; refine O_mv rfl rfl ?_; exact hΦ
  (try simp only [Act.put, List.setIfInBounds_toArray, List.set_cons_succ, List.set_cons_zero])
  refine list_end ?_
  refine then_norm ?_
  refine wp_block ?_
  obtain ⟨R3, hq3, hm⟩ := bs hm
  have hn3 := Nat.le_trans (len_le (d := kI) h_p1 (by decide)) (by decide : (140737488355328 : Nat) ≤ 9223372036854775807)
  refine wp_loopF [none, none, none, none, some 4, none, some 6, some 7, none, some 9, none, none, none, none, some 14, some 15, some 16, some 17, some 18, some 19, some 20, some 21, some 22, some 23, some 24, some 25, some 26, some 27, some 28, some 29, some 30, some 31, some 32, some 33, some 34, some 35, some 36, some 37, some 38, some 39, some 40, some 41, some 42, some 43, some 44, some 45, some 46, some 47, some 48, some 49, some 50, some 51, some 52, some 53] rfl (by simp) (fun f w => ∃ (k3 : Nat) (r3 : List Int) (y3_c1_0 : List Op') (A_y3_c1_0 : Option Addr) (c_y3_c1_0 : Nat), a1.drop k3 = r3 ∧ f 14 = .int .i64 (k3 : Int) ∧ assayerref16_Replay_l3 fuel a0 a1 k3 r3 y3_c1_0 = some R3 ∧ Holds E s ((kOp.sh s).Osl (.slice A_y3_c1_0 y3_c1_0.length c_y3_c1_0) y3_c1_0 :: pt b11 (.cells #[.slice A_y3_c1_0 y3_c1_0.length c_y3_c1_0] 61 (0, 0)) :: L) w) (fun f w => a1.length - (intOf (f 14)).toNat) ?_ ?_
  · exact ⟨0, a1, [], none, 0, rfl, rfl, hq3, H⟩
  · clear H
    intro f w hI
    obtain ⟨k3, r3, y3_c1_0, A_y3_c1_0, c_y3_c1_0, hd3, hf14, hq3', H⟩ := hI
    clear hq3; have hq3 := hq3'; clear hq3'
    simp only [ovm, mixM]
    simp only [hf14]; clear hf14
    refine wp_seq ?_
    refine wp_region_lit ?_
    apply seq_op (V := .bool (decide ((k3 : Int) < (a1.length : Int)))) rfl
    · intro Φ hΦ; refine O_bin rfl rfl rfl eqg_int r_lss ?_; exact hΦ
    (try simp only [Act.put, List.setIfInBounds_toArray, List.set_cons_succ, List.set_cons_zero])
    refine list_end ?_
    refine then_norm ?_
    refine wp_seq ?_
    refine wp_cond_split rfl (fun hc => ?_) (fun hc => ?_)
    · have hc1 := hc
      clear hc
      obtain ⟨x3, r3', rfl, hd3', hd3'', hl3⟩ := rng_t hd3 hc1
      rw [assayerref16_Replay_l3] at hq3
      refine wp_skip ?_
      refine then_norm ?_
      refine wp_seq ?_
      refine wp_block ?_
      refine wp_seq ?_
      obtain ⟨be1, oe1, rfl, hCe1, h0e1⟩ := kI_el h_p1 hd3'
      refine wp_region_lit ?_
      apply seq_op (V := .int .i64 (k3 : Int)) rfl
      · intro Φ hΦ; refine O_mv rfl rfl ?_; exact hΦ
      (try simp only [Act.put, List.setIfInBounds_toArray, List.set_cons_succ, List.set_cons_zero])
      apply seq_op (V := .pointer (some ⟨be1, oe1 + k3 * 1, none⟩)) rfl
      · intro Φ hΦ; refine O_ix rfl Try.underlying33 (Try.sizeOf3 _) rfl rfl rfl hl3 ?_; exact hΦ
      (try simp only [Act.put, List.setIfInBounds_toArray, List.set_cons_succ, List.set_cons_zero])
      apply seq_op (V := .int .i64 x3) rfl
      · intro Φ hΦ; refine G_s1 _ _ rfl (Try.isAgg3 _) rfl H hCe1 0 rfl rfl ?_; exact hΦ
      (try simp only [Act.put, List.setIfInBounds_toArray, List.set_cons_succ, List.set_cons_zero])
      apply seq_op (V := .int .i64 (k3 : Int)) rfl
      · intro Φ hΦ; refine O_as rfl rfl ?_; exact hΦ
      (try simp only [Act.put, List.setIfInBounds_toArray, List.set_cons_succ, List.set_cons_zero])
      apply seq_op (V := .int .i64 x3) rfl
      · intro Φ hΦ; refine O_as rfl rfl ?_; exact hΦ
      (try simp only [Act.put, List.setIfInBounds_toArray, List.set_cons_succ, List.set_cons_zero])
      refine list_end ?_
      refine then_norm ?_
      refine wp_seq ?_
      refine wp_seq ?_
      refine wp_region_lit ?_
      apply seq_op (V := .int .i64 x3) rfl
      · intro Φ hΦ; refine O_mv rfl rfl ?_; exact hΦ
      (try simp only [Act.put, List.setIfInBounds_toArray, List.set_cons_succ, List.set_cons_zero])
      apply seq_op (V := .bool (decide (x3 < 0))) rfl
      · intro Φ hΦ; refine O_bin rfl rfl rfl eqg_int r_lss ?_; exact hΦ
      (try simp only [Act.put, List.setIfInBounds_toArray, List.set_cons_succ, List.set_cons_zero])
      apply seq_op (V := .bool (decide (x3 < 0))) rfl
      · intro Φ hΦ; refine O_mv rfl rfl ?_; exact hΦ
      (try simp only [Act.put, List.setIfInBounds_toArray, List.set_cons_succ, List.set_cons_zero])
      refine seq_opg (c := (!(decide (x3 < 0)))) (V := .int .i64 x3) (by first | exact wanted_f rfl rfl rfl | exact wanted_vf rfl rfl rfl) ?_ ?_
      · intro hc Φ hΦ; refine O_mv rfl rfl ?_; exact hΦ
      (try simp only [Act.put, List.setIfInBounds_toArray, List.set_cons_succ, List.set_cons_zero])
      refine seq_opg (c := (!(decide (x3 < 0)))) (V := .slice A_p0 a0.length c_p0) (by first | exact wanted_f rfl rfl rfl | exact wanted_vf rfl rfl rfl) ?_ ?_
      · intro hc Φ hΦ; refine O_mv rfl rfl ?_; exact hΦ
      (try simp only [Act.put, List.setIfInBounds_toArray, List.set_cons_succ, List.set_cons_zero])
      refine seq_opg (c := (!(decide (x3 < 0)))) (V := .int .i64 (a0.length : Int)) (by first | exact wanted_f rfl rfl rfl | exact wanted_vf rfl rfl rfl) ?_ ?_
      · intro hc Φ hΦ; (repeat (first | rw [vg_of hc] | rw [vg_of (and_l hc)] | rw [vg_of (and_l (and_l hc))] | rw [vg_of (and_l (and_l (and_l hc)))] | rw [vg_and hc])); refine O_len rfl Try.underlying22 rfl ?_; exact hΦ
      (try simp only [Act.put, List.setIfInBounds_toArray, List.set_cons_succ, List.set_cons_zero])
      refine seq_opg (c := (!(decide (x3 < 0)))) (V := .bool (decide (x3 ≥ (a0.length : Int)))) (by first | exact wanted_f rfl rfl rfl | exact wanted_vf rfl rfl rfl) ?_ ?_
      · intro hc Φ hΦ; (repeat (first | rw [vg_of hc] | rw [vg_of (and_l hc)] | rw [vg_of (and_l (and_l hc))] | rw [vg_of (and_l (and_l (and_l hc)))] | rw [vg_and hc])); refine O_bin rfl rfl rfl eqg_int r_geq ?_; exact hΦ
      (try simp only [Act.put, List.setIfInBounds_toArray, List.set_cons_succ, List.set_cons_zero])
      apply seq_op (V := .bool ((decide (x3 < 0)) || (decide (x3 ≥ (a0.length : Int))))) rfl
      · intro Φ hΦ; refine G_or _ _ _ rfl rfl rfl rfl ?_; exact hΦ
      (try simp only [Act.put, List.setIfInBounds_toArray, List.set_cons_succ, List.set_cons_zero])
      refine list_end ?_
      refine then_norm ?_
      refine wp_cond_split rfl (fun hc => ?_) (fun hc => ?_)
      · have hc2 := hc
        clear hc
        replace hq3 := ifT hc2 hq3
        refine wp_seq ?_
        refine wp_region_lit ?_
        apply seq_op (V := .bool false) rfl
        · intro Φ hΦ; refine O_as rfl rfl ?_; exact hΦ
        (try simp only [Act.put, List.setIfInBounds_toArray, List.set_cons_succ, List.set_cons_zero])
        refine list_end ?_
        refine then_norm ?_
        refine wp_ret ?_
        refine then_ret ?_
        refine block_ret ?_
        refine then_ret ?_
        refine then_ret ?_
        refine block_ret ?_
        refine then_ret ?_
        have hq3 := Option.some.inj hq3
        subst hq3
        (try dsimp only at hm)
        have hm := Option.some.inj hm
        subst hm
        replace H := H.dropAt 1 rfl; simp only [List.eraseIdx_cons_succ, List.eraseIdx_cons_zero] at H
        replace H := H.dropAt 0 rfl; simp only [List.eraseIdx_cons_succ, List.eraseIdx_cons_zero] at H
        exact ret1 rfl (rv_tmp rfl) rfl ⟨rfl, H⟩
      · have hc2 := hc
        clear hc
        replace hq3 := ifF hc2 hq3
        refine wp_skip ?_
        refine then_norm ?_
        refine wp_seq ?_
        refine wp_seq ?_
        obtain ⟨u1, gx1, hq3⟩ := bs hq3
        obtain ⟨kq1, hiq1, hkq1, hnq1, hsq1⟩ := slJ_sl h_p1 gx1
        refine wp_region_lit ?_
        apply seq_op (V := .slice (some ⟨be1, oe1, none⟩) a1.length c_p1) rfl
        · intro Φ hΦ; refine O_mv rfl rfl ?_; exact hΦ
        (try simp only [Act.put, List.setIfInBounds_toArray, List.set_cons_succ, List.set_cons_zero])
        apply seq_op (V := .int .i64 (k3 : Int)) rfl
        · intro Φ hΦ; refine O_mv rfl rfl ?_; exact hΦ
        (try simp only [Act.put, List.setIfInBounds_toArray, List.set_cons_succ, List.set_cons_zero])
        apply seq_op (V := .slice (some ⟨be1, oe1, none⟩) u1.length c_p1) rfl
        · intro Φ hΦ; refine O_slJ kI_at rfl rfl rfl hiq1 hkq1 hnq1 ?_; exact hΦ
        (try simp only [Act.put, List.setIfInBounds_toArray, List.set_cons_succ, List.set_cons_zero])
        apply seq_op (V := .int .i64 (u1.length : Int)) rfl
        · intro Φ hΦ; refine O_len rfl Try.underlying33 rfl ?_; exact hΦ
        (try simp only [Act.put, List.setIfInBounds_toArray, List.set_cons_succ, List.set_cons_zero])
        apply seq_op (V := .int .i64 0) rfl
        · intro Φ hΦ; refine O_mv rfl rfl ?_; exact hΦ
        (try simp only [Act.put, List.setIfInBounds_toArray, List.set_cons_succ, List.set_cons_zero])
        refine list_end ?_
        refine then_norm ?_
        refine wp_block ?_
        obtain ⟨R8, hq8, hq3⟩ := lfe hq3
        have hn8 := Nat.le_trans (len_le (d := kI) hsq1 (by decide)) (by decide : (140737488355328 : Nat) ≤ 9223372036854775807)
        refine wp_loopF [none, none, none, none, some 4, none, none, none, none, some 9, none, none, none, none, none, none, none, none, none, none, none, none, none, none, none, none, none, none, none, none, none, some 31, some 32, some 33, some 34, some 35, some 36, some 37, some 38, none, none, none, none, none, none, none, none, none, none, none, none, none, none, none] rfl (by simp) (fun f w => ∃ (k8 : Nat) (r8 : List Int), u1.drop k8 = r8 ∧ f 31 = .int .i64 (k8 : Int) ∧ assayerref16_Replay_l8 x3 k8 r8 = R8 ∧ Holds E s ((kOp.sh s).Osl (.slice A_y3_c1_0 y3_c1_0.length c_y3_c1_0) y3_c1_0 :: pt b11 (.cells #[.slice A_y3_c1_0 y3_c1_0.length c_y3_c1_0] 61 (0, 0)) :: L) w) (fun f w => u1.length - (intOf (f 31)).toNat) ?_ ?_
        · exact ⟨0, u1, rfl, rfl, hq8, H⟩
        · clear H
          intro f w hI
          obtain ⟨k8, r8, hd8, hf31, hq8', H⟩ := hI
          clear hq8; have hq8 := hq8'; clear hq8'
          simp only [ovm, mixM]
          simp only [hf31]; clear hf31
          refine wp_seq ?_
          refine wp_region_lit ?_
          apply seq_op (V := .bool (decide ((k8 : Int) < (u1.length : Int)))) rfl
          · intro Φ hΦ; refine O_bin rfl rfl rfl eqg_int r_lss ?_; exact hΦ
          (try simp only [Act.put, List.setIfInBounds_toArray, List.set_cons_succ, List.set_cons_zero])
          refine list_end ?_
          refine then_norm ?_
          refine wp_seq ?_
          refine wp_cond_split rfl (fun hc => ?_) (fun hc => ?_)
          · have hc3 := hc
            clear hc
            obtain ⟨x8, r8', rfl, hd8', hd8'', hl8⟩ := rng_t hd8 hc3
            rw [assayerref16_Replay_l8] at hq8
            refine wp_skip ?_
            refine then_norm ?_
            refine wp_seq ?_
            refine wp_block ?_
            refine wp_seq ?_
            obtain ⟨hCe2, h0e2⟩ := kI_el2 hsq1 hd8'
            refine wp_region_lit ?_
            apply seq_op (V := .pointer (some ⟨be1, oe1 + k8 * 1, none⟩)) rfl
            · intro Φ hΦ; refine O_ix rfl Try.underlying33 (Try.sizeOf3 _) rfl rfl rfl hl8 ?_; exact hΦ
            (try simp only [Act.put, List.setIfInBounds_toArray, List.set_cons_succ, List.set_cons_zero])
            apply seq_op (V := .int .i64 x8) rfl
            · intro Φ hΦ; refine G_s1 _ _ rfl (Try.isAgg3 _) rfl H hCe2 0 rfl rfl ?_; exact hΦ
            (try simp only [Act.put, List.setIfInBounds_toArray, List.set_cons_succ, List.set_cons_zero])
            apply seq_op (V := .int .i64 x8) rfl
            · intro Φ hΦ; refine O_as rfl rfl ?_; exact hΦ
            (try simp only [Act.put, List.setIfInBounds_toArray, List.set_cons_succ, List.set_cons_zero])
            refine list_end ?_
            refine then_norm ?_
            refine wp_seq ?_
            refine wp_region_lit ?_
            apply seq_op (V := .int .i64 x8) rfl
            · intro Φ hΦ; refine O_mv rfl rfl ?_; exact hΦ
            (try simp only [Act.put, List.setIfInBounds_toArray, List.set_cons_succ, List.set_cons_zero])
            apply seq_op (V := .int .i64 x3) rfl
            · intro Φ hΦ; refine O_mv rfl rfl ?_; exact hΦ
            (try simp only [Act.put, List.setIfInBounds_toArray, List.set_cons_succ, List.set_cons_zero])
            apply seq_op (V := .bool (x8 == x3)) rfl
            · intro Φ hΦ; refine O_bin rfl rfl rfl eqg_int r_eql ?_; exact hΦ
            (try simp only [Act.put, List.setIfInBounds_toArray, List.set_cons_succ, List.set_cons_zero])
            refine list_end ?_
            refine then_norm ?_
            refine wp_cond_split rfl (fun hc => ?_) (fun hc => ?_)
            · have hc4 := hc
              clear hc
              replace hq8 := ifT hc4 hq8
              refine wp_seq ?_
              refine wp_region_lit ?_
              apply seq_op (V := .bool false) rfl
              · intro Φ hΦ; refine O_as rfl rfl ?_; exact hΦ
              (try simp only [Act.put, List.setIfInBounds_toArray, List.set_cons_succ, List.set_cons_zero])
              refine list_end ?_
              refine then_norm ?_
              refine wp_ret ?_
              refine block_ret ?_
              refine then_ret ?_
              refine then_ret ?_
              refine block_ret ?_
              refine then_ret ?_
              refine block_ret ?_
              refine then_ret ?_
              refine then_ret ?_
              refine block_ret ?_
              refine then_ret ?_
              subst hq8
              (try dsimp only at hq3)
              have hq3 := Option.some.inj hq3
              subst hq3
              (try dsimp only at hm)
              have hm := Option.some.inj hm
              subst hm
              replace H := H.dropAt 1 rfl; simp only [List.eraseIdx_cons_succ, List.eraseIdx_cons_zero] at H
              replace H := H.dropAt 0 rfl; simp only [List.eraseIdx_cons_succ, List.eraseIdx_cons_zero] at H
              exact ret1 rfl (rv_tmp rfl) rfl ⟨rfl, H⟩
            · have hc4 := hc
              clear hc
              replace hq8 := ifF hc4 hq8
              refine wp_skip ?_
              refine block_norm ?_
              refine then_norm ?_
              refine wp_region_lit ?_
              apply seq_op (V := .int .i64 (IntKind.i64.wrap ((k8 : Int) + 1))) rfl
              · intro Φ hΦ; refine O_bin rfl rfl rfl eqg_int r_add ?_; exact hΦ
              (try simp only [Act.put, List.setIfInBounds_toArray, List.set_cons_succ, List.set_cons_zero])
              apply seq_op (V := .int .i64 (IntKind.i64.wrap ((k8 : Int) + 1))) rfl
              · intro Φ hΦ; refine O_mv rfl rfl ?_; exact hΦ
              (try simp only [Act.put, List.setIfInBounds_toArray, List.set_cons_succ, List.set_cons_zero])
              refine list_end ?_
              refine then_norm ?_
              refine ⟨⟨⟨rfl, rfl, rfl, rfl, rfl, rfl, rfl, rfl, rfl, rfl, rfl, rfl, rfl, rfl, rfl, rfl, rfl, rfl, rfl, rfl, rfl, rfl, rfl, rfl, rfl, rfl, rfl, rfl, rfl, rfl, rfl, rfl, rfl, rfl, rfl, rfl, rfl, rfl, rfl, rfl, rfl, rfl, rfl, rfl, rfl⟩, rfl⟩, ⟨k8 + 1, _, hd8'', wrap_succ hl8 hn8, hq8, H⟩, ?_⟩
              exact meas_succ hl8 hn8
          · have hc3 := hc
            clear hc
            obtain rfl := rng_f hd8 hc3
            rw [assayerref16_Replay_l8] at hq8
            refine wp_exit ?_
            refine then_exit ?_
            refine then_exit ?_
            subst hq8
            (try dsimp only at hq3)
            refine block_exit ?_
            refine then_norm ?_
            refine wp_seq ?_
            obtain ⟨u2, gx2, hq3⟩ := bs hq3
            obtain ⟨kk1, gk1, gl1, gd1⟩ := rdI_some gx2
            obtain ⟨be3, oe3, A4e3, c4e3, rfl, hCe3, h0e3, h1e3, h2e3, h3e3, h4e3⟩ := kT_el h_p0 gd1
            obtain ⟨u3, gx3, hq3⟩ := bs hq3
            refine wp_draw_C (k := 14) (sz := 54) [12, 13] [.pointer (some ⟨b11, 0, none⟩), .slice (some ⟨be3, oe3, none⟩) a0.length c_p0, .int .i64 x3, .pointer (some ⟨be3, oe3 + kk1 * 5, none⟩), .pointer (some ⟨be3, oe3 + kk1 * 5 + 4, none⟩), .slice A4e3 u2.ops.length c4e3, .slice (some ⟨be3, oe3, none⟩) a0.length c_p0, .int .i64 x3, .pointer (some ⟨be3, oe3 + kk1 * 5, none⟩), .pointer (some ⟨be3, oe3 + kk1 * 5 + 1, none⟩), .int .i64 u2.state, .bool (u2.state == 3), undef, undef] [] [fun w x => ∃ (Ar1o0_l : Option Addr) (cr1o0_l : Nat), x 12 = .bool u3.1 ∧ Holds E s (pt b11 (.cells #[.slice Ar1o0_l u3.2.l.length cr1o0_l] 61 (0, 0)) :: (kOp.sh s).Osl (.slice Ar1o0_l u3.2.l.length cr1o0_l) u3.2.l :: L) w, fun w x => ∃ (Ar1o0_l : Option Addr) (cr1o0_l : Nat), x 12 = .bool u3.1 ∧ x 13 = .bool (!u3.1) ∧ Holds E s (pt b11 (.cells #[.slice Ar1o0_l u3.2.l.length cr1o0_l] 61 (0, 0)) :: (kOp.sh s).Osl (.slice Ar1o0_l u3.2.l.length cr1o0_l) u3.2.l :: L) w] mixed (by simp) rfl (by kernel_rfl) (by kernel_rfl) (by kernel_rfl) (by simp) rfl H (by simp only [List.take_succ_cons, List.take_zero]; exact rfl) (by simp only [List.drop_succ_cons, List.drop_zero]; exact rfl)
              (fun x => by simp only [ov, Act.put, List.setIfInBounds_toArray, List.set_cons_succ, List.set_cons_zero, Nat.zero_add, Nat.reduceAdd]; exact rfl) ?_ ?_ ?_ ?_
            · refine ⟨?_, ?_, ?_, trivial⟩
              · intro w x hS; have H : Holds E s ((kOp.sh s).Osl (.slice A_y3_c1_0 y3_c1_0.length c_y3_c1_0) y3_c1_0 :: pt b11 (.cells #[.slice A_y3_c1_0 y3_c1_0.length c_y3_c1_0] 61 (0, 0)) :: L) w := hS; exact ⟨_, _, Sub.refl _, H⟩
              · intro w x hS; obtain ⟨Ar1o0_l, cr1o0_l, e12, H⟩ := hS; exact ⟨_, _, Sub.refl _, H⟩
              · intro w x hS; obtain ⟨Ar1o0_l, cr1o0_l, e12, e13, H⟩ := hS; exact ⟨_, _, Sub.refl _, H⟩
            · refine ⟨?_, ?_, ?_, ?_, ?_, ?_, ?_, ?_, ?_, ?_, ?_, ?_, ?_, ?_, trivial⟩
              · refine .inr ?_; intro s' R w' x Φ hs H hx hΦ; refine wantG rfl ?_; refine O_mv rfl rfl ?_; exact hΦ
              · refine .inr ?_; intro s' R w' x Φ hs H hx hΦ; refine wantG rfl ?_; refine O_mv rfl rfl ?_; exact hΦ
              · refine .inr ?_; intro s' R w' x Φ hs H hx hΦ; refine wantG rfl ?_; refine O_mv rfl rfl ?_; exact hΦ
              · refine .inr ?_; intro s' R w' x Φ hs H hx hΦ; have e1 : x 1 = .slice (some ⟨be3, oe3, none⟩) a0.length c_p0 := hx 1 (by decide) (by decide); have e2 : x 2 = .int .i64 x3 := hx 2 (by decide) (by decide); simp only [e1, e2]; refine wantG rfl ?_; refine O_ix rfl Try.underlying22 (Try.sizeOf30 _) rfl rfl gk1 gl1 ?_; exact hΦ
              · refine .inr ?_; intro s' R w' x Φ hs H hx hΦ; have e3 : x 3 = .pointer (some ⟨be3, oe3 + kk1 * 5, none⟩) := hx 3 (by decide) (by decide); simp only [e3]; refine wantG rfl ?_; refine O_fld rfl Try.underlying30 rfl (Try.sizeOf28 _) rfl ?_; exact hΦ
              · refine .inr ?_; intro s' R w' x Φ hs H hx hΦ; have e4 : x 4 = .pointer (some ⟨be3, oe3 + kk1 * 5 + 4, none⟩) := hx 4 (by decide) (by decide); simp only [e4]; refine wantG rfl ?_; refine G_s1 _ _ rfl (Try.isAgg28 _) rfl H (hCe3.mono hs) 4 rfl rfl ?_; exact hΦ
              · refine .inr ?_; intro s' R w' x Φ hs H hx hΦ; refine wantG rfl ?_; refine O_mv rfl rfl ?_; exact hΦ
              · refine .inr ?_; intro s' R w' x Φ hs H hx hΦ; refine wantG rfl ?_; refine O_mv rfl rfl ?_; exact hΦ
              · refine .inr ?_; intro s' R w' x Φ hs H hx hΦ; have e6 : x 6 = .slice (some ⟨be3, oe3, none⟩) a0.length c_p0 := hx 6 (by decide) (by decide); have e7 : x 7 = .int .i64 x3 := hx 7 (by decide) (by decide); simp only [e6, e7]; refine wantG rfl ?_; refine O_ix rfl Try.underlying22 (Try.sizeOf30 _) rfl rfl gk1 gl1 ?_; exact hΦ
              · refine .inr ?_; intro s' R w' x Φ hs H hx hΦ; have e8 : x 8 = .pointer (some ⟨be3, oe3 + kk1 * 5, none⟩) := hx 8 (by decide) (by decide); simp only [e8]; refine wantG rfl ?_; refine O_fld rfl Try.underlying30 rfl (Try.sizeOf3 _) rfl ?_; exact hΦ
              · refine .inr ?_; intro s' R w' x Φ hs H hx hΦ; have e9 : x 9 = .pointer (some ⟨be3, oe3 + kk1 * 5 + 1, none⟩) := hx 9 (by decide) (by decide); simp only [e9]; refine wantG rfl ?_; refine G_s1 _ _ rfl (Try.isAgg3 _) rfl H (hCe3.mono hs) 1 rfl rfl ?_; exact hΦ
              · refine .inr ?_; intro s' R w' x Φ hs H hx hΦ; have e10 : x 10 = .int .i64 u2.state := hx 10 (by decide) (by decide); simp only [e10]; refine wantG rfl ?_; refine O_bin rfl rfl rfl eqg_int r_eql ?_; exact hΦ
              · exact .inl (by decide)
              · exact .inl (by decide)
            · refine ⟨?_, ?_, trivial⟩
              · intro o ho; obtain rfl := Option.some.inj ho; intro w' x Φ hS hx hΦ
                have H : Holds E s ((kOp.sh s).Osl (.slice A_y3_c1_0 y3_c1_0.length c_y3_c1_0) y3_c1_0 :: pt b11 (.cells #[.slice A_y3_c1_0 y3_c1_0.length c_y3_c1_0] 61 (0, 0)) :: L) w' := hS; clear hS
                have e0 : x 0 = .pointer (some ⟨b11, 0, none⟩) := hx 0 (by decide) (by decide)
                have e5 : x 5 = .slice A4e3 u2.ops.length c4e3 := hx 5 (by decide) (by decide)
                have e11 : x 11 = .bool (u2.state == 3) := hx 11 (by decide) (by decide)
                simp only [e0, e5, e11]
                refine wantG rfl ?_
                replace H := H.front 1 rfl; simp only [List.eraseIdx_cons_succ, List.eraseIdx_cons_zero] at H
                refine O_call3 rfl Try.func38 rfl rfl rfl rfl rfl ?_; refine (assayerref16_State_Apply_w (fuel := fuel) (a0 := (⟨y3_c1_0⟩ : St16)) (a1 := u2.ops) (h_p1 := h4e3) (a2 := u2.state == 3) (hm := gx3) (H := H)).mono ?_
                clear H
                rintro e w1 ⟨Ar1o0_l, cr1o0_l, rfl, H⟩; refine ⟨_, rfl, ?_⟩
                exact hΦ _ _ ⟨Ar1o0_l, cr1o0_l, updV_same, H⟩
              · intro o ho; obtain rfl := Option.some.inj ho; intro w' x Φ hS hx hΦ
                obtain ⟨Ar1o0_l, cr1o0_l, e12, H⟩ := hS
                simp only [e12]
                refine wantG rfl ?_
                refine O_not rfl rfl ?_
                exact hΦ _ _ ⟨Ar1o0_l, cr1o0_l, (updV_ne (by decide)).trans e12, updV_same, H⟩
            · clear H
              intro w' x hS hx
              obtain ⟨Ar1o0_l, cr1o0_l, e12, e13, H⟩ := hS
              have e0 : x 0 = .pointer (some ⟨b11, 0, none⟩) := hx 0 (by decide) (by decide)
              have e1 : x 1 = .slice (some ⟨be3, oe3, none⟩) a0.length c_p0 := hx 1 (by decide) (by decide)
              have e2 : x 2 = .int .i64 x3 := hx 2 (by decide) (by decide)
              have e3 : x 3 = .pointer (some ⟨be3, oe3 + kk1 * 5, none⟩) := hx 3 (by decide) (by decide)
              have e4 : x 4 = .pointer (some ⟨be3, oe3 + kk1 * 5 + 4, none⟩) := hx 4 (by decide) (by decide)
              have e5 : x 5 = .slice A4e3 u2.ops.length c4e3 := hx 5 (by decide) (by decide)
              have e6 : x 6 = .slice (some ⟨be3, oe3, none⟩) a0.length c_p0 := hx 6 (by decide) (by decide)
              have e7 : x 7 = .int .i64 x3 := hx 7 (by decide) (by decide)
              have e8 : x 8 = .pointer (some ⟨be3, oe3 + kk1 * 5, none⟩) := hx 8 (by decide) (by decide)
              have e9 : x 9 = .pointer (some ⟨be3, oe3 + kk1 * 5 + 1, none⟩) := hx 9 (by decide) (by decide)
              have e10 : x 10 = .int .i64 u2.state := hx 10 (by decide) (by decide)
              have e11 : x 11 = .bool (u2.state == 3) := hx 11 (by decide) (by decide)
              simp only [e0, e1, e2, e3, e4, e5, e6, e7, e8, e9, e10, e11, e12, e13]
              clear hx
              refine list_end ?_
              refine then_norm ?_
              refine wp_cond_split rfl (fun hc => ?_) (fun hc => ?_)
              · have hc5 := hc
                clear hc
                replace hq3 := ifT hc5 hq3
                refine wp_seq ?_
                refine wp_region_lit ?_
                apply seq_op (V := .bool false) rfl
                · intro Φ hΦ; refine O_as rfl rfl ?_; exact hΦ
                (try simp only [Act.put, List.setIfInBounds_toArray, List.set_cons_succ, List.set_cons_zero])
                refine list_end ?_
                refine then_norm ?_
                refine wp_ret ?_
                refine block_ret ?_
                refine then_ret ?_
                refine then_ret ?_
                refine block_ret ?_
                refine then_ret ?_
                have hq3 := Option.some.inj hq3
                subst hq3
                (try dsimp only at hm)
                have hm := Option.some.inj hm
                subst hm
                replace H := H.dropAt 1 rfl; simp only [List.eraseIdx_cons_succ, List.eraseIdx_cons_zero] at H
                replace H := H.dropAt 0 rfl; simp only [List.eraseIdx_cons_succ, List.eraseIdx_cons_zero] at H
                exact ret1 rfl (rv_tmp rfl) rfl ⟨rfl, H⟩
              · have hc5 := hc
                clear hc
                replace hq3 := ifF hc5 hq3
                refine wp_skip ?_
                refine block_norm ?_
                refine then_norm ?_
                refine wp_region_lit ?_
                apply seq_op (V := .int .i64 (IntKind.i64.wrap ((k3 : Int) + 1))) rfl
                · intro Φ hΦ; refine O_bin rfl rfl rfl eqg_int r_add ?_; exact hΦ
                (try simp only [Act.put, List.setIfInBounds_toArray, List.set_cons_succ, List.set_cons_zero])
                apply seq_op (V := .int .i64 (IntKind.i64.wrap ((k3 : Int) + 1))) rfl
                · intro Φ hΦ; refine O_mv rfl rfl ?_; exact hΦ
                (try simp only [Act.put, List.setIfInBounds_toArray, List.set_cons_succ, List.set_cons_zero])
                refine list_end ?_
                refine then_norm ?_
                replace H := H.front 1 rfl; simp only [List.eraseIdx_cons_succ, List.eraseIdx_cons_zero] at H
                refine ⟨⟨⟨rfl, rfl, rfl, rfl, rfl, rfl, rfl, rfl, rfl, rfl, rfl⟩, rfl⟩, ⟨k3 + 1, _, u3.2.l, Ar1o0_l, cr1o0_l, hd3'', wrap_succ hl3 hn3, hq3, H⟩, ?_⟩
                exact meas_succ hl3 hn3
    · have hc1 := hc
      clear hc
      obtain rfl := rng_f hd3 hc1
      rw [assayerref16_Replay_l3] at hq3
      refine wp_exit ?_
      refine then_exit ?_
      refine then_exit ?_
      have hq3 := Option.some.inj hq3
      subst hq3
      (try dsimp only at hm)
      refine block_exit ?_
      refine then_norm ?_
      refine wp_seq ?_
      refine wp_region_lit ?_
      apply seq_op (V := .bool true) rfl
      · intro Φ hΦ; refine O_as rfl rfl ?_; exact hΦ
      (try simp only [Act.put, List.setIfInBounds_toArray, List.set_cons_succ, List.set_cons_zero])
      refine list_end ?_
      refine then_norm ?_
      refine wp_ret ?_
      have hm := Option.some.inj hm
      subst hm
      replace H := H.dropAt 1 rfl; simp only [List.eraseIdx_cons_succ, List.eraseIdx_cons_zero] at H
      replace H := H.dropAt 0 rfl; simp only [List.eraseIdx_cons_succ, List.eraseIdx_cons_zero] at H
      exact ret1 rfl (rv_tmp rfl) rfl ⟨rfl, H⟩
def assayerref17_ahead_f (a0 : Txn) (a1 : Txn) : Bool := (((a0.state == 1) && (decide (a0.to ≥ 0))) && (decide (a0.to < a1.from_)))

set_option maxHeartbeats 4000000 in
theorem assayerref17_ahead_w {E : World} {s : SH} {L : List HP} {w : World} {a0 : Txn} {a1 : Txn} {A_p0_ops : Option Addr} {c_p0_ops : Nat} (h_p0_ops : kOp.Sl s (.slice A_p0_ops a0.ops.length c_p0_ops) a0.ops) {A_p1_ops : Option Addr} {c_p1_ops : Nat} (h_p1_ops : kOp.Sl s (.slice A_p1_ops a1.ops.length c_p1_ops) a1.ops) (H : Holds E s (L) w) :
    Calls Try.prog 79 #[.agg #[.int .i64 a0.proc, .int .i64 a0.state, .int .i64 a0.from_, .int .i64 a0.to, .slice A_p0_ops a0.ops.length c_p0_ops], .agg #[.int .i64 a1.proc, .int .i64 a1.state, .int .i64 a1.from_, .int .i64 a1.to, .slice A_p1_ops a1.ops.length c_p1_ops]] w fun e w' => e = .returned (.bool (assayerref17_ahead_f a0 a1)) ∧ Holds E s (L) w' := by
  obtain ⟨R, hm⟩ : ∃ R, assayerref17_ahead_f a0 a1 = R := ⟨_, rfl⟩
  (try rw [hm])
  unfold assayerref17_ahead_f at hm
  go_enter Try.func79, Try.ntmps79
  refine wp_seq ?_
  refine wp_region_lit ?_
  refine OpG.list rfl ?_; refine B_x 30 _ rfl (v := .agg #[.int .i64 a0.proc, .int .i64 a0.state, .int .i64 a0.from_, .int .i64 a0.to, .slice A_p0_ops a0.ops.length c_p0_ops]) rfl H ?_; clear H; intro b2 w1 H; (try simp only [Value.cells] at H)
  (try simp only [Act.put, List.setIfInBounds_toArray, List.set_cons_succ, List.set_cons_zero])
  refine OpG.list rfl ?_; refine B_x 30 _ rfl (v := .agg #[.int .i64 a1.proc, .int .i64 a1.state, .int .i64 a1.from_, .int .i64 a1.to, .slice A_p1_ops a1.ops.length c_p1_ops]) rfl H ?_; clear H; intro b3 w1 H; (try simp only [Value.cells] at H)
  (try simp only [Act.put, List.setIfInBounds_toArray, List.set_cons_succ, List.set_cons_zero])
  apply seq_op (V := .bool false) rfl
  · intro Φ hΦ; refine O_as rfl rfl ?_; exact hΦ
  (try simp only [Act.put, List.setIfInBounds_toArray, List.set_cons_succ, List.set_cons_zero])
  refine list_end ?_
  refine then_norm ?_
  refine wp_seq ?_
  refine wp_region_lit ?_
  apply seq_op (V := .pointer (some ⟨b2, 1, none⟩)) rfl
  · intro Φ hΦ; refine O_fld rfl Try.underlying30 rfl (Try.sizeOf3 _) rfl ?_; exact hΦ
  (try simp only [Act.put, List.setIfInBounds_toArray, List.set_cons_succ, List.set_cons_zero])
  apply seq_op (V := .int .i64 a0.state) rfl
  · intro Φ hΦ; refine L_1 1 _ _ rfl (Try.isAgg3 _) rfl H rfl rfl ?_; exact hΦ
  (try simp only [Act.put, List.setIfInBounds_toArray, List.set_cons_succ, List.set_cons_zero])
  apply seq_op (V := .bool (a0.state == 1)) rfl
  · intro Φ hΦ; refine O_bin rfl rfl rfl eqg_int r_eql ?_; exact hΦ
  (try simp only [Act.put, List.setIfInBounds_toArray, List.set_cons_succ, List.set_cons_zero])
  apply seq_op (V := .bool (a0.state == 1)) rfl
  · intro Φ hΦ; refine O_mv rfl rfl ?_; exact hΦ
  (try simp only [Act.put, List.setIfInBounds_toArray, List.set_cons_succ, List.set_cons_zero])
  refine seq_opg (c := (a0.state == 1)) (V := .pointer (some ⟨b2, 3, none⟩)) (by first | exact wanted_t rfl rfl rfl | exact wanted_vt rfl rfl rfl) ?_ ?_
  · intro hc Φ hΦ; refine O_fld rfl Try.underlying30 rfl (Try.sizeOf3 _) rfl ?_; exact hΦ
  (try simp only [Act.put, List.setIfInBounds_toArray, List.set_cons_succ, List.set_cons_zero])
  refine seq_opg (c := (a0.state == 1)) (V := .int .i64 a0.to) (by first | exact wanted_t rfl rfl rfl | exact wanted_vt rfl rfl rfl) ?_ ?_
  · intro hc Φ hΦ; (repeat (first | rw [vg_of hc] | rw [vg_of (and_l hc)] | rw [vg_of (and_l (and_l hc))] | rw [vg_of (and_l (and_l (and_l hc)))] | rw [vg_and hc])); refine L_1 1 _ _ rfl (Try.isAgg3 _) rfl H rfl rfl ?_; exact hΦ
  (try simp only [Act.put, List.setIfInBounds_toArray, List.set_cons_succ, List.set_cons_zero])
  refine seq_opg (c := (a0.state == 1)) (V := .bool (decide (a0.to ≥ 0))) (by first | exact wanted_t rfl rfl rfl | exact wanted_vt rfl rfl rfl) ?_ ?_
  · intro hc Φ hΦ; (repeat (first | rw [vg_of hc] | rw [vg_of (and_l hc)] | rw [vg_of (and_l (and_l hc))] | rw [vg_of (and_l (and_l (and_l hc)))] | rw [vg_and hc])); refine O_bin rfl rfl rfl eqg_int r_geq ?_; exact hΦ
  (try simp only [Act.put, List.setIfInBounds_toArray, List.set_cons_succ, List.set_cons_zero])
  apply seq_op (V := .bool ((a0.state == 1) && (decide (a0.to ≥ 0)))) rfl
  · intro Φ hΦ; refine G_and _ _ _ rfl rfl rfl rfl ?_; exact hΦ
  (try simp only [Act.put, List.setIfInBounds_toArray, List.set_cons_succ, List.set_cons_zero])
  apply seq_op (V := .bool ((a0.state == 1) && (decide (a0.to ≥ 0)))) rfl
  · intro Φ hΦ; refine O_mv rfl rfl ?_; exact hΦ
  (try simp only [Act.put, List.setIfInBounds_toArray, List.set_cons_succ, List.set_cons_zero])
  refine seq_opg (c := ((a0.state == 1) && (decide (a0.to ≥ 0)))) (V := .pointer (some ⟨b2, 3, none⟩)) (by first | exact wanted_t rfl rfl rfl | exact wanted_vt rfl rfl rfl) ?_ ?_
  · intro hc Φ hΦ; refine O_fld rfl Try.underlying30 rfl (Try.sizeOf3 _) rfl ?_; exact hΦ
  (try simp only [Act.put, List.setIfInBounds_toArray, List.set_cons_succ, List.set_cons_zero])
  refine seq_opg (c := ((a0.state == 1) && (decide (a0.to ≥ 0)))) (V := .int .i64 a0.to) (by first | exact wanted_t rfl rfl rfl | exact wanted_vt rfl rfl rfl) ?_ ?_
  · intro hc Φ hΦ; (repeat (first | rw [vg_of hc] | rw [vg_of (and_l hc)] | rw [vg_of (and_l (and_l hc))] | rw [vg_of (and_l (and_l (and_l hc)))] | rw [vg_and hc])); refine L_1 1 _ _ rfl (Try.isAgg3 _) rfl H rfl rfl ?_; exact hΦ
  (try simp only [Act.put, List.setIfInBounds_toArray, List.set_cons_succ, List.set_cons_zero])
  refine seq_opg (c := ((a0.state == 1) && (decide (a0.to ≥ 0)))) (V := .pointer (some ⟨b3, 2, none⟩)) (by first | exact wanted_t rfl rfl rfl | exact wanted_vt rfl rfl rfl) ?_ ?_
  · intro hc Φ hΦ; refine O_fld rfl Try.underlying30 rfl (Try.sizeOf3 _) rfl ?_; exact hΦ
  (try simp only [Act.put, List.setIfInBounds_toArray, List.set_cons_succ, List.set_cons_zero])
  refine seq_opg (c := ((a0.state == 1) && (decide (a0.to ≥ 0)))) (V := .int .i64 a1.from_) (by first | exact wanted_t rfl rfl rfl | exact wanted_vt rfl rfl rfl) ?_ ?_
  · intro hc Φ hΦ; (repeat (first | rw [vg_of hc] | rw [vg_of (and_l hc)] | rw [vg_of (and_l (and_l hc))] | rw [vg_of (and_l (and_l (and_l hc)))] | rw [vg_and hc])); refine L_1 0 _ _ rfl (Try.isAgg3 _) rfl H rfl rfl ?_; exact hΦ
  (try simp only [Act.put, List.setIfInBounds_toArray, List.set_cons_succ, List.set_cons_zero])
  refine seq_opg (c := ((a0.state == 1) && (decide (a0.to ≥ 0)))) (V := .bool (decide (a0.to < a1.from_))) (by first | exact wanted_t rfl rfl rfl | exact wanted_vt rfl rfl rfl) ?_ ?_
  · intro hc Φ hΦ; (repeat (first | rw [vg_of hc] | rw [vg_of (and_l hc)] | rw [vg_of (and_l (and_l hc))] | rw [vg_of (and_l (and_l (and_l hc)))] | rw [vg_and hc])); refine O_bin rfl rfl rfl eqg_int r_lss ?_; exact hΦ
  (try simp only [Act.put, List.setIfInBounds_toArray, List.set_cons_succ, List.set_cons_zero])
  apply seq_op (V := .bool (((a0.state == 1) && (decide (a0.to ≥ 0))) && (decide (a0.to < a1.from_)))) rfl
  · intro Φ hΦ; refine G_and _ _ _ rfl rfl rfl rfl ?_; exact hΦ
  (try simp only [Act.put, List.setIfInBounds_toArray, List.set_cons_succ, List.set_cons_zero])
  apply seq_op (V := .bool (((a0.state == 1) && (decide (a0.to ≥ 0))) && (decide (a0.to < a1.from_)))) rfl
  · intro Φ hΦ; refine O_as rfl rfl ?_; exact hΦ
  (try simp only [Act.put, List.setIfInBounds_toArray, List.set_cons_succ, List.set_cons_zero])
  refine list_end ?_
  refine then_norm ?_
  refine wp_ret ?_
  subst hm
  replace H := H.dropAt 1 rfl; simp only [List.eraseIdx_cons_succ, List.eraseIdx_cons_zero] at H
  replace H := H.dropAt 0 rfl; simp only [List.eraseIdx_cons_succ, List.eraseIdx_cons_zero] at H
  exact ret1 rfl (rv_tmp rfl) rfl ⟨rfl, H⟩
def assayerref17_Right_l11 (a0 : List Txn) (x5 : Int) : Nat → List Int → Option ((Bool ⊕ Unit))
  | k11, []  => some (.inr ())
  | k11, x11 :: r11 => (rdI a0 x5).bind fun u5 => (rdI a0 x11).bind fun u6 => if (assayerref17_ahead_f u5 u6) = true then (some (.inl false)) else (assayerref17_Right_l11 a0 x5 (k11 + 1) r11)

def assayerref17_Right_l5 (a0 : List Txn) (a1 : List Int) : Nat → List Int → (List Bool) → Option ((Bool ⊕ ((List Bool))))
  | k5, [] , y5_p0 => some (.inr y5_p0)
  | k5, x5 :: r5, y5_p0 => (rdI y5_p0 x5).bind fun u2 => (rdI a0 x5).bind fun u3 => if ((u3.state != 1) && (u3.state != 3)) = true then (some (.inl false)) else ((sliJ a1 (k5 : Int)).bind fun u4 => (assayerref17_Right_l11 a0 x5 0 u4).bind fun | .inl z11_r => (some (.inl z11_r)) | .inr () => (assayerref17_Right_l5 a0 a1 (k5 + 1) r5 (List.set y5_p0 (x5).toNat true)))

def assayerref17_Right_l18 (z5_p0 : List Bool) : Nat → List Txn → Option ((Bool ⊕ Unit))
  | k18, []  => some (.inr ())
  | k18, x18 :: r18 => if (x18.state == 1) = true then ((rdI z5_p0 (k18 : Int)).bind fun u7 => if (!u7) = true then (some (.inl false)) else (assayerref17_Right_l18 z5_p0 (k18 + 1) r18)) else (assayerref17_Right_l18 z5_p0 (k18 + 1) r18)

def assayerref17_Right_f (fuel : Nat) (a0 : List Txn) (a1 : List Int) : Option Bool := (assayerref16_Replay_f fuel a0 a1).bind fun u1 => if (!u1) = true then (some false) else ((assayerref17_Right_l5 a0 a1 0 a1 (List.replicate a0.length false)).bind fun | .inl z5_r => (some z5_r) | .inr z5_p0 => ((assayerref17_Right_l18 z5_p0 0 a0).bind fun | .inl z18_r => (some z18_r) | .inr () => (some true)))

set_option maxHeartbeats 4000000 in
theorem assayerref17_Right_w {E : World} {s : SH} {L : List HP} {w : World} {fuel : Nat} {a0 : List Txn} {a1 : List Int} {A_p0 : Option Addr} {c_p0 : Nat} (h_p0 : kT.Sl s (.slice A_p0 a0.length c_p0) a0) {A_p1 : Option Addr} {c_p1 : Nat} (h_p1 : kI.Sl s (.slice A_p1 a1.length c_p1) a1) {R : Bool} (hm : assayerref17_Right_f fuel a0 a1 = some R) (H : Holds E s (L) w) :
    Calls Try.prog 45 #[.slice A_p0 a0.length c_p0, .slice A_p1 a1.length c_p1] w fun e w' => e = .returned (.bool R) ∧ Holds E s (L) w' := by
  unfold assayerref17_Right_f at hm
  go_enter Try.func45, Try.ntmps45
  refine wp_seq ?_
  refine wp_region_lit ?_
  apply seq_op (V := .bool false) rfl
  · intro Φ hΦ; refine O_as rfl rfl ?_; exact hΦ
  (try simp only [Act.put, List.setIfInBounds_toArray, List.set_cons_succ, List.set_cons_zero])
  refine list_end ?_
  refine then_norm ?_
  refine wp_seq ?_
  refine wp_seq ?_
  obtain ⟨u1, gx1, hm⟩ := bs hm
  refine wp_region_lit ?_
  apply seq_op (V := .slice A_p0 a0.length c_p0) rfl
  · intro Φ hΦ; refine O_mv rfl rfl ?_; exact hΦ
  (try simp only [Act.put, List.setIfInBounds_toArray, List.set_cons_succ, List.set_cons_zero])
  apply seq_op (V := .slice A_p1 a1.length c_p1) rfl
  · intro Φ hΦ; refine O_mv rfl rfl ?_; exact hΦ
  (try simp only [Act.put, List.setIfInBounds_toArray, List.set_cons_succ, List.set_cons_zero])
  refine seq_call rfl (fun Φ hΦ => by refine O_call2 rfl Try.func33 rfl rfl rfl rfl hΦ) (assayerref16_Replay_w (fuel := fuel) (a0 := a0) (h_p0 := h_p0) (a1 := a1) (h_p1 := h_p1) (hm := gx1) (H := H)) ?_
  clear H
  rintro e w1 ⟨rfl, H⟩; refine ⟨_, rfl, ?_⟩
  (try simp only [Act.put, List.setIfInBounds_toArray, List.set_cons_succ, List.set_cons_zero])
  apply seq_op (V := .bool (!u1)) rfl
  · intro Φ hΦ; refine O_not rfl rfl ?_; exact hΦ
  (try simp only [Act.put, List.setIfInBounds_toArray, List.set_cons_succ, List.set_cons_zero])
  refine list_end ?_
  refine then_norm ?_
  refine wp_cond_split rfl (fun hc => ?_) (fun hc => ?_)
  · have hc1 := hc
    clear hc
    replace hm := ifT hc1 hm
    refine wp_seq ?_
    refine wp_region_lit ?_
    apply seq_op (V := .bool false) rfl
    · intro Φ hΦ; refine O_as rfl rfl ?_; exact hΦ
    (try simp only [Act.put, List.setIfInBounds_toArray, List.set_cons_succ, List.set_cons_zero])
    refine list_end ?_
    refine then_norm ?_
    refine wp_ret ?_
    refine then_ret ?_
    have hm := Option.some.inj hm
    subst hm
    exact ret1 rfl (rv_tmp rfl) rfl ⟨rfl, H⟩
  · have hc1 := hc
    clear hc
    replace hm := ifF hc1 hm
    refine wp_skip ?_
    refine then_norm ?_
    refine wp_seq ?_
    refine wp_region_lit ?_
    apply seq_op (V := .slice A_p0 a0.length c_p0) rfl
    · intro Φ hΦ; refine O_mv rfl rfl ?_; exact hΦ
    (try simp only [Act.put, List.setIfInBounds_toArray, List.set_cons_succ, List.set_cons_zero])
    apply seq_op (V := .int .i64 (a0.length : Int)) rfl
    · intro Φ hΦ; refine O_len rfl Try.underlying22 rfl ?_; exact hΦ
    (try simp only [Act.put, List.setIfInBounds_toArray, List.set_cons_succ, List.set_cons_zero])
    refine OpG.list rfl ?_; refine G_make (d := kB.sh s) ⟨kB_at.ht, kB_at.bypos, kB_at.hi⟩ _ _ rfl a0.length rfl rfl false kB_zero (by have h_ := len_le (d := kT) h_p0 (by decide); show a0.length * 1 ≤ 140737488355328; omega) H ?_; clear H; intro v1 w1 H; obtain ⟨Av1, cv1, hv, -⟩ := H.len; rw [List.length_replicate] at hv; subst hv
    (try simp only [Act.put, List.setIfInBounds_toArray, List.set_cons_succ, List.set_cons_zero])
    apply seq_op (V := .slice Av1 a0.length cv1) rfl
    · intro Φ hΦ; refine O_as rfl rfl ?_; exact hΦ
    (try simp only [Act.put, List.setIfInBounds_toArray, List.set_cons_succ, List.set_cons_zero])
    refine list_end ?_
    refine then_norm ?_
    refine wp_seq ?_
    refine wp_seq ?_
    refine wp_region_lit ?_
    apply seq_op (V := .slice A_p1 a1.length c_p1) rfl
    · intro Φ hΦ; refine O_mv rfl rfl ?_; exact hΦ
    (try simp only [Act.put, List.setIfInBounds_toArray, List.set_cons_succ, List.set_cons_zero])
    apply seq_op (V := .int .i64 (a1.length : Int)) rfl
    · intro Φ hΦ; refine O_len rfl Try.underlying33 rfl ?_; exact hΦ
    (try simp only [Act.put, List.setIfInBounds_toArray, List.set_cons_succ, List.set_cons_zero])
    apply seq_op (V := .int .i64 0) rfl
    · intro Φ hΦ; refine O_mv rfl rfl ?_; exact hΦ
    (try simp only [Act.put, List.setIfInBounds_toArray, List.set_cons_succ, List.set_cons_zero])
    refine list_end ?_
    refine then_norm ?_
    refine wp_block ?_
    obtain ⟨R5, hq5, hm⟩ := bs hm
    have hn5 := Nat.le_trans (len_le (d := kI) h_p1 (by decide)) (by decide : (140737488355328 : Nat) ≤ 9223372036854775807)
    refine wp_loopF [none, none, none, none, some 4, none, some 6, some 7, none, some 9, none, none, none, none, none, none, none, none, none, none, none, some 21, some 22, some 23, some 24, some 25, some 26, some 27, some 28, some 29, some 30, some 31, some 32, some 33, some 34, some 35, some 36, some 37, some 38, some 39, some 40, some 41, some 42, some 43, some 44, some 45, some 46, some 47, some 48, some 49, some 50, some 51, some 52, some 53, some 54, some 55, some 56, some 57, some 58, some 59, some 60, some 61, none, none, none, none, none, none, none, none, none, none, none, none, none, none, none, none, none, none] rfl (by simp) (fun f w => ∃ (k5 : Nat) (r5 : List Int) (y5_p0 : List Bool), a1.drop k5 = r5 ∧ f 21 = .int .i64 (k5 : Int) ∧ assayerref17_Right_l5 a0 a1 k5 r5 y5_p0 = some R5 ∧ Holds E s ((kB.sh s).Osl (.slice Av1 a0.length cv1) y5_p0 :: L) w) (fun f w => a1.length - (intOf (f 21)).toNat) ?_ ?_
    · exact ⟨0, a1, (List.replicate a0.length false), rfl, rfl, hq5, H⟩
    · clear H
      intro f w hI
      obtain ⟨k5, r5, y5_p0, hd5, hf21, hq5', H⟩ := hI
      clear hq5; have hq5 := hq5'; clear hq5'
      simp only [ovm, mixM]
      simp only [hf21]; clear hf21
      refine wp_seq ?_
      refine wp_region_lit ?_
      apply seq_op (V := .bool (decide ((k5 : Int) < (a1.length : Int)))) rfl
      · intro Φ hΦ; refine O_bin rfl rfl rfl eqg_int r_lss ?_; exact hΦ
      (try simp only [Act.put, List.setIfInBounds_toArray, List.set_cons_succ, List.set_cons_zero])
      refine list_end ?_
      refine then_norm ?_
      refine wp_seq ?_
      refine wp_cond_split rfl (fun hc => ?_) (fun hc => ?_)
      · have hc2 := hc
        clear hc
        obtain ⟨x5, r5', rfl, hd5', hd5'', hl5⟩ := rng_t hd5 hc2
        rw [assayerref17_Right_l5] at hq5
        refine wp_skip ?_
        refine then_norm ?_
        refine wp_seq ?_
        refine wp_block ?_
        refine wp_seq ?_
        obtain ⟨be1, oe1, rfl, hCe1, h0e1⟩ := kI_el h_p1 hd5'
        refine wp_region_lit ?_
        apply seq_op (V := .int .i64 (k5 : Int)) rfl
        · intro Φ hΦ; refine O_mv rfl rfl ?_; exact hΦ
        (try simp only [Act.put, List.setIfInBounds_toArray, List.set_cons_succ, List.set_cons_zero])
        apply seq_op (V := .pointer (some ⟨be1, oe1 + k5 * 1, none⟩)) rfl
        · intro Φ hΦ; refine O_ix rfl Try.underlying33 (Try.sizeOf3 _) rfl rfl rfl hl5 ?_; exact hΦ
        (try simp only [Act.put, List.setIfInBounds_toArray, List.set_cons_succ, List.set_cons_zero])
        apply seq_op (V := .int .i64 x5) rfl
        · intro Φ hΦ; refine G_s1 _ _ rfl (Try.isAgg3 _) rfl H hCe1 0 rfl rfl ?_; exact hΦ
        (try simp only [Act.put, List.setIfInBounds_toArray, List.set_cons_succ, List.set_cons_zero])
        apply seq_op (V := .int .i64 (k5 : Int)) rfl
        · intro Φ hΦ; refine O_as rfl rfl ?_; exact hΦ
        (try simp only [Act.put, List.setIfInBounds_toArray, List.set_cons_succ, List.set_cons_zero])
        apply seq_op (V := .int .i64 x5) rfl
        · intro Φ hΦ; refine O_as rfl rfl ?_; exact hΦ
        (try simp only [Act.put, List.setIfInBounds_toArray, List.set_cons_succ, List.set_cons_zero])
        refine list_end ?_
        refine then_norm ?_
        refine wp_seq ?_
        obtain ⟨u2, gx2, hq5⟩ := bs hq5
        obtain ⟨kk1, gk1, gl1, gd1⟩ := rdI_some gx2
        obtain ⟨bokk1, rfl⟩ := own_addr 0 H rfl (fun e => by rw [e] at gl1; exact absurd gl1 (Nat.not_lt_zero _))
        refine wp_region_lit ?_
        apply seq_op (V := .slice (some ⟨bokk1, 0, none⟩) a0.length cv1) rfl
        · intro Φ hΦ; refine O_mv rfl rfl ?_; exact hΦ
        (try simp only [Act.put, List.setIfInBounds_toArray, List.set_cons_succ, List.set_cons_zero])
        apply seq_op (V := .int .i64 x5) rfl
        · intro Φ hΦ; refine O_mv rfl rfl ?_; exact hΦ
        (try simp only [Act.put, List.setIfInBounds_toArray, List.set_cons_succ, List.set_cons_zero])
        apply seq_op (V := .pointer (some ⟨bokk1, kk1, none⟩)) rfl
        · intro Φ hΦ; refine O_ix0 rfl Try.underlying124 (Try.sizeOf4 _) rfl rfl gk1 (by obtain ⟨_, _, e, -⟩ := (H.front 0 rfl).len; have e2 := congrArg lenS e; simp only [lenS] at e2; have e3 := gl1; omega) ?_; exact hΦ
        (try simp only [Act.put, List.setIfInBounds_toArray, List.set_cons_succ, List.set_cons_zero])
        refine OpG.list rfl ?_; refine G_ownset (d := kB) rfl 0 _ _ _ rfl (Try.sizeOf4 _) rfl rfl H rfl gk1 gl1 (kB_mk' ) ?_; clear H; intro w1 H; simp only [List.set_cons_succ, List.set_cons_zero] at H
        (try simp only [Act.put, List.setIfInBounds_toArray, List.set_cons_succ, List.set_cons_zero])
        refine list_end ?_
        refine then_norm ?_
        refine wp_seq ?_
        refine wp_seq ?_
        obtain ⟨u3, gx3, hq5⟩ := bs hq5
        obtain ⟨kk2, gk2, gl2, gd2⟩ := rdI_some gx3
        obtain ⟨be2, oe2, A4e2, c4e2, rfl, hCe2, h0e2, h1e2, h2e2, h3e2, h4e2⟩ := kT_el h_p0 gd2
        refine wp_region_lit ?_
        apply seq_op (V := .slice (some ⟨be2, oe2, none⟩) a0.length c_p0) rfl
        · intro Φ hΦ; refine O_mv rfl rfl ?_; exact hΦ
        (try simp only [Act.put, List.setIfInBounds_toArray, List.set_cons_succ, List.set_cons_zero])
        apply seq_op (V := .int .i64 x5) rfl
        · intro Φ hΦ; refine O_mv rfl rfl ?_; exact hΦ
        (try simp only [Act.put, List.setIfInBounds_toArray, List.set_cons_succ, List.set_cons_zero])
        apply seq_op (V := .pointer (some ⟨be2, oe2 + kk2 * 5, none⟩)) rfl
        · intro Φ hΦ; refine O_ix rfl Try.underlying22 (Try.sizeOf30 _) rfl rfl gk2 gl2 ?_; exact hΦ
        (try simp only [Act.put, List.setIfInBounds_toArray, List.set_cons_succ, List.set_cons_zero])
        apply seq_op (V := .pointer (some ⟨be2, oe2 + kk2 * 5 + 1, none⟩)) rfl
        · intro Φ hΦ; refine O_fld rfl Try.underlying30 rfl (Try.sizeOf3 _) rfl ?_; exact hΦ
        (try simp only [Act.put, List.setIfInBounds_toArray, List.set_cons_succ, List.set_cons_zero])
        apply seq_op (V := .int .i64 u3.state) rfl
        · intro Φ hΦ; refine G_s1 _ _ rfl (Try.isAgg3 _) rfl H hCe2 1 rfl rfl ?_; exact hΦ
        (try simp only [Act.put, List.setIfInBounds_toArray, List.set_cons_succ, List.set_cons_zero])
        apply seq_op (V := .bool (u3.state != 1)) rfl
        · intro Φ hΦ; refine O_bin rfl rfl rfl eqg_int r_neq ?_; exact hΦ
        (try simp only [Act.put, List.setIfInBounds_toArray, List.set_cons_succ, List.set_cons_zero])
        apply seq_op (V := .bool (u3.state != 1)) rfl
        · intro Φ hΦ; refine O_mv rfl rfl ?_; exact hΦ
        (try simp only [Act.put, List.setIfInBounds_toArray, List.set_cons_succ, List.set_cons_zero])
        refine seq_opg (c := (u3.state != 1)) (V := .slice (some ⟨be2, oe2, none⟩) a0.length c_p0) (by first | exact wanted_t rfl rfl rfl | exact wanted_vt rfl rfl rfl) ?_ ?_
        · intro hc Φ hΦ; refine O_mv rfl rfl ?_; exact hΦ
        (try simp only [Act.put, List.setIfInBounds_toArray, List.set_cons_succ, List.set_cons_zero])
        refine seq_opg (c := (u3.state != 1)) (V := .int .i64 x5) (by first | exact wanted_t rfl rfl rfl | exact wanted_vt rfl rfl rfl) ?_ ?_
        · intro hc Φ hΦ; refine O_mv rfl rfl ?_; exact hΦ
        (try simp only [Act.put, List.setIfInBounds_toArray, List.set_cons_succ, List.set_cons_zero])
        refine seq_opg (c := (u3.state != 1)) (V := .pointer (some ⟨be2, oe2 + kk2 * 5, none⟩)) (by first | exact wanted_t rfl rfl rfl | exact wanted_vt rfl rfl rfl) ?_ ?_
        · intro hc Φ hΦ; (repeat (first | rw [vg_of hc] | rw [vg_of (and_l hc)] | rw [vg_of (and_l (and_l hc))] | rw [vg_of (and_l (and_l (and_l hc)))] | rw [vg_and hc])); refine O_ix rfl Try.underlying22 (Try.sizeOf30 _) rfl rfl gk2 gl2 ?_; exact hΦ
        (try simp only [Act.put, List.setIfInBounds_toArray, List.set_cons_succ, List.set_cons_zero])
        refine seq_opg (c := (u3.state != 1)) (V := .pointer (some ⟨be2, oe2 + kk2 * 5 + 1, none⟩)) (by first | exact wanted_t rfl rfl rfl | exact wanted_vt rfl rfl rfl) ?_ ?_
        · intro hc Φ hΦ; (repeat (first | rw [vg_of hc] | rw [vg_of (and_l hc)] | rw [vg_of (and_l (and_l hc))] | rw [vg_of (and_l (and_l (and_l hc)))] | rw [vg_and hc])); refine O_fld rfl Try.underlying30 rfl (Try.sizeOf3 _) rfl ?_; exact hΦ
        (try simp only [Act.put, List.setIfInBounds_toArray, List.set_cons_succ, List.set_cons_zero])
        refine seq_opg (c := (u3.state != 1)) (V := .int .i64 u3.state) (by first | exact wanted_t rfl rfl rfl | exact wanted_vt rfl rfl rfl) ?_ ?_
        · intro hc Φ hΦ; (repeat (first | rw [vg_of hc] | rw [vg_of (and_l hc)] | rw [vg_of (and_l (and_l hc))] | rw [vg_of (and_l (and_l (and_l hc)))] | rw [vg_and hc])); refine G_s1 _ _ rfl (Try.isAgg3 _) rfl H hCe2 1 rfl rfl ?_; exact hΦ
        (try simp only [Act.put, List.setIfInBounds_toArray, List.set_cons_succ, List.set_cons_zero])
        refine seq_opg (c := (u3.state != 1)) (V := .bool (u3.state != 3)) (by first | exact wanted_t rfl rfl rfl | exact wanted_vt rfl rfl rfl) ?_ ?_
        · intro hc Φ hΦ; (repeat (first | rw [vg_of hc] | rw [vg_of (and_l hc)] | rw [vg_of (and_l (and_l hc))] | rw [vg_of (and_l (and_l (and_l hc)))] | rw [vg_and hc])); refine O_bin rfl rfl rfl eqg_int r_neq ?_; exact hΦ
        (try simp only [Act.put, List.setIfInBounds_toArray, List.set_cons_succ, List.set_cons_zero])
        apply seq_op (V := .bool ((u3.state != 1) && (u3.state != 3))) rfl
        · intro Φ hΦ; refine G_and _ _ _ rfl rfl rfl rfl ?_; exact hΦ
        (try simp only [Act.put, List.setIfInBounds_toArray, List.set_cons_succ, List.set_cons_zero])
        refine list_end ?_
        refine then_norm ?_
        refine wp_cond_split rfl (fun hc => ?_) (fun hc => ?_)
        · have hc3 := hc
          clear hc
          replace hq5 := ifT hc3 hq5
          refine wp_seq ?_
          refine wp_region_lit ?_
          apply seq_op (V := .bool false) rfl
          · intro Φ hΦ; refine O_as rfl rfl ?_; exact hΦ
          (try simp only [Act.put, List.setIfInBounds_toArray, List.set_cons_succ, List.set_cons_zero])
          refine list_end ?_
          refine then_norm ?_
          refine wp_ret ?_
          refine then_ret ?_
          refine block_ret ?_
          refine then_ret ?_
          refine then_ret ?_
          refine block_ret ?_
          refine then_ret ?_
          have hq5 := Option.some.inj hq5
          subst hq5
          (try dsimp only at hm)
          have hm := Option.some.inj hm
          subst hm
          replace H := H.dropAt 0 rfl; simp only [List.eraseIdx_cons_succ, List.eraseIdx_cons_zero] at H
          exact ret1 rfl (rv_tmp rfl) rfl ⟨rfl, H⟩
        · have hc3 := hc
          clear hc
          replace hq5 := ifF hc3 hq5
          refine wp_skip ?_
          refine then_norm ?_
          refine wp_seq ?_
          obtain ⟨u4, gx4, hq5⟩ := bs hq5
          obtain ⟨kq1, hiq1, hkq1, hnq1, hsq1⟩ := slJ_sl h_p1 gx4
          refine wp_region_lit ?_
          apply seq_op (V := .slice (some ⟨be1, oe1, none⟩) a1.length c_p1) rfl
          · intro Φ hΦ; refine O_mv rfl rfl ?_; exact hΦ
          (try simp only [Act.put, List.setIfInBounds_toArray, List.set_cons_succ, List.set_cons_zero])
          apply seq_op (V := .int .i64 (k5 : Int)) rfl
          · intro Φ hΦ; refine O_mv rfl rfl ?_; exact hΦ
          (try simp only [Act.put, List.setIfInBounds_toArray, List.set_cons_succ, List.set_cons_zero])
          apply seq_op (V := .slice (some ⟨be1, oe1, none⟩) u4.length c_p1) rfl
          · intro Φ hΦ; refine O_slJ kI_at rfl rfl rfl hiq1 hkq1 hnq1 ?_; exact hΦ
          (try simp only [Act.put, List.setIfInBounds_toArray, List.set_cons_succ, List.set_cons_zero])
          apply seq_op (V := .int .i64 (u4.length : Int)) rfl
          · intro Φ hΦ; refine O_len rfl Try.underlying33 rfl ?_; exact hΦ
          (try simp only [Act.put, List.setIfInBounds_toArray, List.set_cons_succ, List.set_cons_zero])
          apply seq_op (V := .int .i64 0) rfl
          · intro Φ hΦ; refine O_mv rfl rfl ?_; exact hΦ
          (try simp only [Act.put, List.setIfInBounds_toArray, List.set_cons_succ, List.set_cons_zero])
          refine list_end ?_
          refine then_norm ?_
          refine wp_block ?_
          obtain ⟨R11, hq11, hq5⟩ := bs hq5
          have hn11 := Nat.le_trans (len_le (d := kI) hsq1 (by decide)) (by decide : (140737488355328 : Nat) ≤ 9223372036854775807)
          refine wp_loopF [none, none, none, none, some 4, none, none, none, none, some 9, none, none, none, none, none, none, none, none, none, none, none, none, none, none, none, none, none, none, none, none, none, none, none, none, none, none, none, none, none, none, none, none, none, none, none, none, none, some 47, some 48, some 49, some 50, some 51, some 52, some 53, some 54, some 55, some 56, some 57, some 58, some 59, some 60, none, none, none, none, none, none, none, none, none, none, none, none, none, none, none, none, none, none, none] rfl (by simp) (fun f w => ∃ (k11 : Nat) (r11 : List Int), u4.drop k11 = r11 ∧ f 47 = .int .i64 (k11 : Int) ∧ assayerref17_Right_l11 a0 x5 k11 r11 = some R11 ∧ Holds E s ((kB.sh s).Osl (.slice (some ⟨bokk1, 0, none⟩) a0.length cv1) (List.set y5_p0 (x5).toNat true) :: L) w) (fun f w => u4.length - (intOf (f 47)).toNat) ?_ ?_
          · exact ⟨0, u4, rfl, rfl, hq11, H⟩
          · clear H
            intro f w hI
            obtain ⟨k11, r11, hd11, hf47, hq11', H⟩ := hI
            clear hq11; have hq11 := hq11'; clear hq11'
            simp only [ovm, mixM]
            simp only [hf47]; clear hf47
            refine wp_seq ?_
            refine wp_region_lit ?_
            apply seq_op (V := .bool (decide ((k11 : Int) < (u4.length : Int)))) rfl
            · intro Φ hΦ; refine O_bin rfl rfl rfl eqg_int r_lss ?_; exact hΦ
            (try simp only [Act.put, List.setIfInBounds_toArray, List.set_cons_succ, List.set_cons_zero])
            refine list_end ?_
            refine then_norm ?_
            refine wp_seq ?_
            refine wp_cond_split rfl (fun hc => ?_) (fun hc => ?_)
            · have hc4 := hc
              clear hc
              obtain ⟨x11, r11', rfl, hd11', hd11'', hl11⟩ := rng_t hd11 hc4
              rw [assayerref17_Right_l11] at hq11
              refine wp_skip ?_
              refine then_norm ?_
              refine wp_seq ?_
              refine wp_block ?_
              refine wp_seq ?_
              obtain ⟨hCe3, h0e3⟩ := kI_el2 hsq1 hd11'
              refine wp_region_lit ?_
              apply seq_op (V := .pointer (some ⟨be1, oe1 + k11 * 1, none⟩)) rfl
              · intro Φ hΦ; refine O_ix rfl Try.underlying33 (Try.sizeOf3 _) rfl rfl rfl hl11 ?_; exact hΦ
              (try simp only [Act.put, List.setIfInBounds_toArray, List.set_cons_succ, List.set_cons_zero])
              apply seq_op (V := .int .i64 x11) rfl
              · intro Φ hΦ; refine G_s1 _ _ rfl (Try.isAgg3 _) rfl H hCe3 0 rfl rfl ?_; exact hΦ
              (try simp only [Act.put, List.setIfInBounds_toArray, List.set_cons_succ, List.set_cons_zero])
              apply seq_op (V := .int .i64 x11) rfl
              · intro Φ hΦ; refine O_as rfl rfl ?_; exact hΦ
              (try simp only [Act.put, List.setIfInBounds_toArray, List.set_cons_succ, List.set_cons_zero])
              refine list_end ?_
              refine then_norm ?_
              refine wp_seq ?_
              obtain ⟨u5, gx5, hq11⟩ := bs hq11
              obtain ⟨kk3, gk3, gl3, gd3⟩ := rdI_some gx5
              obtain ⟨A4e4, c4e4, hCe4, h0e4, h1e4, h2e4, h3e4, h4e4⟩ := kT_el2 h_p0 gd3
              obtain ⟨u6, gx6, hq11⟩ := bs hq11
              obtain ⟨kk4, gk4, gl4, gd4⟩ := rdI_some gx6
              obtain ⟨A4e5, c4e5, hCe5, h0e5, h1e5, h2e5, h3e5, h4e5⟩ := kT_el2 h_p0 gd4
              refine wp_draw_obO (k := 9) (sz := 80) (List.replicate 9 9) (fun _ => []) mixed (by simp) rfl (by kernel_rfl) (by kernel_rfl) (by kernel_rfl) H (by simp only [List.take_succ_cons, List.take_zero]; exact rfl) (by simp only [List.drop_succ_cons, List.drop_zero]; exact rfl)
                (fun y => by simp only [ov, Act.put, List.setIfInBounds_toArray, List.set_cons_succ, List.set_cons_zero, Nat.zero_add, Nat.reduceAdd]; exact rfl) ?_
              apply ObO.valw (V := .slice (some ⟨be2, oe2, none⟩) a0.length c_p0)
              · intro x; rfl
              · intro s' w' y Φ R hs H hG hΦ; refine wantG rfl ?_; refine O_mv rfl rfl ?_; exact hΦ _ _ (Sub.refl _) H
              apply ObO.valw (V := .int .i64 x5)
              · intro x; rfl
              · intro s' w' y Φ R hs H hG hΦ; refine wantG rfl ?_; refine O_mv rfl rfl ?_; exact hΦ _ _ (Sub.refl _) H
              apply ObO.valw (V := .pointer (some ⟨be2, oe2 + kk3 * 5, none⟩))
              · intro x; rfl
              · intro s' w' y Φ R hs H hG hΦ; simp only [List.nil_append, List.cons_append] at hG; have e0 : y 0 = _ := dh_get hG 0 rfl (by kernel_rfl); have e1 : y 1 = _ := dh_get hG 1 rfl (by kernel_rfl); simp only [e0, e1]; refine wantG rfl ?_; refine O_ix rfl Try.underlying22 (Try.sizeOf30 _) rfl rfl gk3 gl3 ?_; exact hΦ _ _ (Sub.refl _) H
              apply ObO.valw (V := .agg #[.int .i64 u5.proc, .int .i64 u5.state, .int .i64 u5.from_, .int .i64 u5.to, .slice A4e4 u5.ops.length c4e4])
              · intro x; rfl
              · intro s' w' y Φ R hs H hG hΦ; simp only [List.nil_append, List.cons_append] at hG; have e2 : y 2 = _ := dh_get hG 2 rfl (by kernel_rfl); simp only [e2]; refine wantG rfl ?_; refine G_sN _ _ rfl (Try.isAgg30 _) rfl H (hCe4.mono hs) (Try.sizeOf30 _) ?_; exact hΦ _ _ (Sub.refl _) H
              apply ObO.valw (V := .slice (some ⟨be2, oe2, none⟩) a0.length c_p0)
              · intro x; rfl
              · intro s' w' y Φ R hs H hG hΦ; refine wantG rfl ?_; refine O_mv rfl rfl ?_; exact hΦ _ _ (Sub.refl _) H
              apply ObO.valw (V := .int .i64 x11)
              · intro x; rfl
              · intro s' w' y Φ R hs H hG hΦ; refine wantG rfl ?_; refine O_mv rfl rfl ?_; exact hΦ _ _ (Sub.refl _) H
              apply ObO.valw (V := .pointer (some ⟨be2, oe2 + kk4 * 5, none⟩))
              · intro x; rfl
              · intro s' w' y Φ R hs H hG hΦ; simp only [List.nil_append, List.cons_append] at hG; have e4 : y 4 = _ := dh_get hG 4 rfl (by kernel_rfl); have e5 : y 5 = _ := dh_get hG 5 rfl (by kernel_rfl); simp only [e4, e5]; refine wantG rfl ?_; refine O_ix rfl Try.underlying22 (Try.sizeOf30 _) rfl rfl gk4 gl4 ?_; exact hΦ _ _ (Sub.refl _) H
              apply ObO.valw (V := .agg #[.int .i64 u6.proc, .int .i64 u6.state, .int .i64 u6.from_, .int .i64 u6.to, .slice A4e5 u6.ops.length c4e5])
              · intro x; rfl
              · intro s' w' y Φ R hs H hG hΦ; simp only [List.nil_append, List.cons_append] at hG; have e6 : y 6 = _ := dh_get hG 6 rfl (by kernel_rfl); simp only [e6]; refine wantG rfl ?_; refine G_sN _ _ rfl (Try.isAgg30 _) rfl H (hCe5.mono hs) (Try.sizeOf30 _) ?_; exact hΦ _ _ (Sub.refl _) H
              apply ObO.valw (V := .bool (assayerref17_ahead_f u5 u6))
              · intro x; rfl
              · intro s' w' y Φ R hs H hG hΦ; simp only [List.nil_append, List.cons_append] at hG; have e3 : y 3 = _ := dh_get hG 3 rfl (by kernel_rfl); have e7 : y 7 = _ := dh_get hG 7 rfl (by kernel_rfl); simp only [e3, e7]; refine wantG rfl ?_; refine O_call2 rfl Try.func79 rfl rfl rfl rfl ?_; refine (assayerref17_ahead_w (a0 := u5) (h_p0_ops := (h4e4.mono hs)) (a1 := u6) (h_p1_ops := (h4e5.mono hs)) (H := H)).mono ?_; rintro e w2 ⟨rfl, H⟩; exact ⟨_, rfl, hΦ _ _ (Sub.refl _) H⟩
              clear H
              intro s3 w3 yy hs3 H hG
              replace H := (show Holds _ _ ([] ++ _) _ from H); rw [List.nil_append] at H
              simp only [List.nil_append, List.cons_append] at hG
              have e0 : yy 0 = _ := gh_get hG 0 rfl
              have e1 : yy 1 = _ := gh_get hG 1 rfl
              have e2 : yy 2 = _ := gh_get hG 2 rfl
              have e3 : yy 3 = _ := gh_get hG 3 rfl
              have e4 : yy 4 = _ := gh_get hG 4 rfl
              have e5 : yy 5 = _ := gh_get hG 5 rfl
              have e6 : yy 6 = _ := gh_get hG 6 rfl
              have e7 : yy 7 = _ := gh_get hG 7 rfl
              have e8 : yy 8 = _ := gh_get hG 8 rfl
              simp only [e0, e1, e2, e3, e4, e5, e6, e7, e8]
              clear hG e0 e1 e2 e3 e4 e5 e6 e7 e8
              replace H := H.forget hs3; clear hs3
              refine list_end ?_
              refine then_norm ?_
              refine wp_cond_split rfl (fun hc => ?_) (fun hc => ?_)
              · have hc5 := hc
                clear hc
                replace hq11 := ifT hc5 hq11
                refine wp_seq ?_
                refine wp_region_lit ?_
                apply seq_op (V := .bool false) rfl
                · intro Φ hΦ; refine O_as rfl rfl ?_; exact hΦ
                (try simp only [Act.put, List.setIfInBounds_toArray, List.set_cons_succ, List.set_cons_zero])
                refine list_end ?_
                refine then_norm ?_
                refine wp_ret ?_
                refine block_ret ?_
                refine then_ret ?_
                refine then_ret ?_
                refine block_ret ?_
                refine block_ret ?_
                refine then_ret ?_
                refine then_ret ?_
                refine block_ret ?_
                refine then_ret ?_
                have hq11 := Option.some.inj hq11
                subst hq11
                (try dsimp only at hq5)
                have hq5 := Option.some.inj hq5
                subst hq5
                (try dsimp only at hm)
                have hm := Option.some.inj hm
                subst hm
                replace H := H.dropAt 0 rfl; simp only [List.eraseIdx_cons_succ, List.eraseIdx_cons_zero] at H
                exact ret1 rfl (rv_tmp rfl) rfl ⟨rfl, H⟩
              · have hc5 := hc
                clear hc
                replace hq11 := ifF hc5 hq11
                refine wp_skip ?_
                refine block_norm ?_
                refine then_norm ?_
                refine wp_region_lit ?_
                apply seq_op (V := .int .i64 (IntKind.i64.wrap ((k11 : Int) + 1))) rfl
                · intro Φ hΦ; refine O_bin rfl rfl rfl eqg_int r_add ?_; exact hΦ
                (try simp only [Act.put, List.setIfInBounds_toArray, List.set_cons_succ, List.set_cons_zero])
                apply seq_op (V := .int .i64 (IntKind.i64.wrap ((k11 : Int) + 1))) rfl
                · intro Φ hΦ; refine O_mv rfl rfl ?_; exact hΦ
                (try simp only [Act.put, List.setIfInBounds_toArray, List.set_cons_succ, List.set_cons_zero])
                refine list_end ?_
                refine then_norm ?_
                refine ⟨⟨⟨rfl, rfl, rfl, rfl, rfl, rfl, rfl, rfl, rfl, rfl, rfl, rfl, rfl, rfl, rfl, rfl, rfl, rfl, rfl, rfl, rfl, rfl, rfl, rfl, rfl, rfl, rfl, rfl, rfl, rfl, rfl, rfl, rfl, rfl, rfl, rfl, rfl, rfl, rfl, rfl, rfl, rfl, rfl, rfl, rfl, rfl, rfl, rfl, rfl, rfl, rfl, rfl, rfl, rfl, rfl, rfl, rfl, rfl, rfl, rfl, rfl, rfl, rfl, rfl, rfl⟩, rfl⟩, ⟨k11 + 1, _, hd11'', wrap_succ hl11 hn11, hq11, H⟩, ?_⟩
                exact meas_succ hl11 hn11
            · have hc4 := hc
              clear hc
              obtain rfl := rng_f hd11 hc4
              rw [assayerref17_Right_l11] at hq11
              refine wp_exit ?_
              refine then_exit ?_
              refine then_exit ?_
              have hq11 := Option.some.inj hq11
              subst hq11
              (try dsimp only at hq5)
              refine block_exit ?_
              refine block_norm ?_
              refine then_norm ?_
              refine wp_region_lit ?_
              apply seq_op (V := .int .i64 (IntKind.i64.wrap ((k5 : Int) + 1))) rfl
              · intro Φ hΦ; refine O_bin rfl rfl rfl eqg_int r_add ?_; exact hΦ
              (try simp only [Act.put, List.setIfInBounds_toArray, List.set_cons_succ, List.set_cons_zero])
              apply seq_op (V := .int .i64 (IntKind.i64.wrap ((k5 : Int) + 1))) rfl
              · intro Φ hΦ; refine O_mv rfl rfl ?_; exact hΦ
              (try simp only [Act.put, List.setIfInBounds_toArray, List.set_cons_succ, List.set_cons_zero])
              refine list_end ?_
              refine then_norm ?_
              refine ⟨⟨⟨rfl, rfl, rfl, rfl, rfl, rfl, rfl, rfl, rfl, rfl, rfl, rfl, rfl, rfl, rfl, rfl, rfl, rfl, rfl, rfl, rfl, rfl, rfl, rfl, rfl, rfl, rfl, rfl, rfl, rfl, rfl, rfl, rfl, rfl, rfl, rfl⟩, rfl⟩, ⟨k5 + 1, _, (List.set y5_p0 (x5).toNat true), hd5'', wrap_succ hl5 hn5, hq5, H⟩, ?_⟩
              exact meas_succ hl5 hn5
      · have hc2 := hc
        clear hc
        obtain rfl := rng_f hd5 hc2
        rw [assayerref17_Right_l5] at hq5
        refine wp_exit ?_
        refine then_exit ?_
        refine then_exit ?_
        have hq5 := Option.some.inj hq5
        subst hq5
        (try dsimp only at hm)
        refine block_exit ?_
        refine then_norm ?_
        refine wp_seq ?_
        refine wp_seq ?_
        refine wp_region_lit ?_
        apply seq_op (V := .slice A_p0 a0.length c_p0) rfl
        · intro Φ hΦ; refine O_mv rfl rfl ?_; exact hΦ
        (try simp only [Act.put, List.setIfInBounds_toArray, List.set_cons_succ, List.set_cons_zero])
        apply seq_op (V := .int .i64 (a0.length : Int)) rfl
        · intro Φ hΦ; refine O_len rfl Try.underlying22 rfl ?_; exact hΦ
        (try simp only [Act.put, List.setIfInBounds_toArray, List.set_cons_succ, List.set_cons_zero])
        apply seq_op (V := .int .i64 0) rfl
        · intro Φ hΦ; refine O_mv rfl rfl ?_; exact hΦ
        (try simp only [Act.put, List.setIfInBounds_toArray, List.set_cons_succ, List.set_cons_zero])
        refine list_end ?_
        refine then_norm ?_
        refine wp_block ?_
        obtain ⟨R18, hq18, hm⟩ := bs hm
        have hn18 := Nat.le_trans (len_le (d := kT) h_p0 (by decide)) (by decide : (140737488355328 : Nat) ≤ 9223372036854775807)
        refine wp_loopF [none, none, none, none, some 4, none, none, none, none, none, some 10, some 11, none, none, none, none, none, none, none, none, none, none, none, none, none, none, none, none, none, none, none, none, none, none, none, none, none, none, none, none, none, none, none, none, none, none, none, none, none, none, none, none, none, none, none, none, none, none, none, none, none, none, none, none, some 64, some 65, some 66, some 67, some 68, some 69, some 70, some 71, some 72, some 73, some 74, some 75, some 76, some 77, some 78, some 79] rfl (by simp) (fun f w => ∃ (k18 : Nat) (r18 : List Txn), a0.drop k18 = r18 ∧ f 64 = .int .i64 (k18 : Int) ∧ assayerref17_Right_l18 y5_p0 k18 r18 = some R18 ∧ Holds E s ((kB.sh s).Osl (.slice Av1 a0.length cv1) y5_p0 :: L) w) (fun f w => a0.length - (intOf (f 64)).toNat) ?_ ?_
        · exact ⟨0, a0, rfl, rfl, hq18, H⟩
        · clear H
          intro f w hI
          obtain ⟨k18, r18, hd18, hf64, hq18', H⟩ := hI
          clear hq18; have hq18 := hq18'; clear hq18'
          simp only [ovm, mixM]
          simp only [hf64]; clear hf64
          refine wp_seq ?_
          refine wp_region_lit ?_
          apply seq_op (V := .bool (decide ((k18 : Int) < (a0.length : Int)))) rfl
          · intro Φ hΦ; refine O_bin rfl rfl rfl eqg_int r_lss ?_; exact hΦ
          (try simp only [Act.put, List.setIfInBounds_toArray, List.set_cons_succ, List.set_cons_zero])
          refine list_end ?_
          refine then_norm ?_
          refine wp_seq ?_
          refine wp_cond_split rfl (fun hc => ?_) (fun hc => ?_)
          · have hc6 := hc
            clear hc
            obtain ⟨x18, r18', rfl, hd18', hd18'', hl18⟩ := rng_t hd18 hc6
            rw [assayerref17_Right_l18] at hq18
            refine wp_skip ?_
            refine then_norm ?_
            refine wp_seq ?_
            refine wp_block ?_
            refine wp_seq ?_
            obtain ⟨be6, oe6, A4e6, c4e6, rfl, hCe6, h0e6, h1e6, h2e6, h3e6, h4e6⟩ := kT_el h_p0 hd18'
            refine wp_region_lit ?_
            apply seq_op (V := .int .i64 (k18 : Int)) rfl
            · intro Φ hΦ; refine O_mv rfl rfl ?_; exact hΦ
            (try simp only [Act.put, List.setIfInBounds_toArray, List.set_cons_succ, List.set_cons_zero])
            apply seq_op (V := .pointer (some ⟨be6, oe6 + k18 * 5, none⟩)) rfl
            · intro Φ hΦ; refine O_ix rfl Try.underlying22 (Try.sizeOf30 _) rfl rfl rfl hl18 ?_; exact hΦ
            (try simp only [Act.put, List.setIfInBounds_toArray, List.set_cons_succ, List.set_cons_zero])
            apply seq_op (V := .agg #[.int .i64 x18.proc, .int .i64 x18.state, .int .i64 x18.from_, .int .i64 x18.to, .slice A4e6 x18.ops.length c4e6]) rfl
            · intro Φ hΦ; refine G_sN _ _ rfl (Try.isAgg30 _) rfl H hCe6 (Try.sizeOf30 _) ?_; exact hΦ
            (try simp only [Act.put, List.setIfInBounds_toArray, List.set_cons_succ, List.set_cons_zero])
            refine OpG.list rfl ?_; refine G_alloc 30 rfl (Try.zeroValue30 _) H ?_; clear H; intro b11 w1 H; (try simp only [Value.cells] at H)
            (try simp only [Act.put, List.setIfInBounds_toArray, List.set_cons_succ, List.set_cons_zero])
            apply seq_op (V := .int .i64 (k18 : Int)) rfl
            · intro Φ hΦ; refine O_as rfl rfl ?_; exact hΦ
            (try simp only [Act.put, List.setIfInBounds_toArray, List.set_cons_succ, List.set_cons_zero])
            refine OpG.list rfl ?_; refine G_setNi 0 (c := [.int .i64 x18.proc, .int .i64 x18.state, .int .i64 x18.from_, .int .i64 x18.to, .slice A4e6 x18.ops.length c4e6]) _ _ _ rfl (Try.sizeOf30 _) rfl rfl (by simp [Value.oneCell']) H rfl rfl ?_; clear H; intro w1 H; simp only [List.set_cons_succ, List.set_cons_zero] at H
            (try simp only [Act.put, List.setIfInBounds_toArray, List.set_cons_succ, List.set_cons_zero])
            refine list_end ?_
            refine then_norm ?_
            refine wp_seq ?_
            rcases Bool.eq_false_or_eq_true (x18.state == 1) with hg1 | hg1
            · replace hq18 := ifT hg1 hq18
              obtain ⟨u7, gx7, hq18⟩ := bs hq18
              obtain ⟨kk5, gk5, gl5, gd5⟩ := rdI_some gx7
              obtain ⟨bokk5, rfl⟩ := own_addr 1 H rfl (fun e => by rw [e] at gl5; exact absurd gl5 (Nat.not_lt_zero _))
              refine wp_region_lit ?_
              apply seq_op (V := .pointer (some ⟨b11, 1, none⟩)) rfl
              · intro Φ hΦ; refine O_fld rfl Try.underlying30 rfl (Try.sizeOf3 _) rfl ?_; exact hΦ
              (try simp only [Act.put, List.setIfInBounds_toArray, List.set_cons_succ, List.set_cons_zero])
              apply seq_op (V := .int .i64 x18.state) rfl
              · intro Φ hΦ; refine L_1 0 _ _ rfl (Try.isAgg3 _) rfl H rfl rfl ?_; exact hΦ
              (try simp only [Act.put, List.setIfInBounds_toArray, List.set_cons_succ, List.set_cons_zero])
              apply seq_op (V := .bool (x18.state == 1)) rfl
              · intro Φ hΦ; refine O_bin rfl rfl rfl eqg_int r_eql ?_; exact hΦ
              (try simp only [Act.put, List.setIfInBounds_toArray, List.set_cons_succ, List.set_cons_zero])
              apply seq_op (V := .bool (x18.state == 1)) rfl
              · intro Φ hΦ; refine O_mv rfl rfl ?_; exact hΦ
              (try simp only [Act.put, List.setIfInBounds_toArray, List.set_cons_succ, List.set_cons_zero])
              refine seq_opw (V := .slice (some ⟨bokk5, 0, none⟩) a0.length cv1) ((wanted_t rfl rfl rfl).trans hg1) ?_ ?_
              · intro Φ hΦ; refine O_mv rfl rfl ?_; exact hΦ
              (try simp only [Act.put, List.setIfInBounds_toArray, List.set_cons_succ, List.set_cons_zero])
              refine seq_opw (V := .int .i64 (k18 : Int)) ((wanted_t rfl rfl rfl).trans hg1) ?_ ?_
              · intro Φ hΦ; refine O_mv rfl rfl ?_; exact hΦ
              (try simp only [Act.put, List.setIfInBounds_toArray, List.set_cons_succ, List.set_cons_zero])
              refine seq_opw (V := .pointer (some ⟨bokk5, kk5, none⟩)) ((wanted_t rfl rfl rfl).trans hg1) ?_ ?_
              · intro Φ hΦ; refine O_ix0 rfl Try.underlying124 (Try.sizeOf4 _) rfl rfl gk5 (by obtain ⟨_, _, e, -⟩ := (H.front 1 rfl).len; have e2 := congrArg lenS e; simp only [lenS] at e2; have e3 := gl5; omega) ?_; exact hΦ
              (try simp only [Act.put, List.setIfInBounds_toArray, List.set_cons_succ, List.set_cons_zero])
              refine seq_opw (V := .bool u7) ((wanted_t rfl rfl rfl).trans hg1) ?_ ?_
              · intro Φ hΦ; refine G_ownget (d := kB) (f := 0) 1 _ _ rfl (Try.isAgg4 _) rfl (Nat.mul_one _).symm H rfl gd5 kB_cell ?_; exact hΦ
              (try simp only [Act.put, List.setIfInBounds_toArray, List.set_cons_succ, List.set_cons_zero])
              refine seq_opw (V := .bool (!u7)) ((wanted_t rfl rfl rfl).trans hg1) ?_ ?_
              · intro Φ hΦ; refine O_not rfl rfl ?_; exact hΦ
              (try simp only [Act.put, List.setIfInBounds_toArray, List.set_cons_succ, List.set_cons_zero])
              apply seq_op (V := .bool (!u7)) rfl
              · intro Φ hΦ; refine O_pickT rfl rfl hg1 rfl ?_; exact hΦ
              (try simp only [Act.put, List.setIfInBounds_toArray, List.set_cons_succ, List.set_cons_zero])
              refine list_end ?_
              refine then_norm ?_
              refine wp_cond_split rfl (fun hc => ?_) (fun hc => ?_)
              · have hc7 := hc
                clear hc
                replace hq18 := ifT hc7 hq18
                refine wp_seq ?_
                refine wp_region_lit ?_
                apply seq_op (V := .bool false) rfl
                · intro Φ hΦ; refine O_as rfl rfl ?_; exact hΦ
                (try simp only [Act.put, List.setIfInBounds_toArray, List.set_cons_succ, List.set_cons_zero])
                refine list_end ?_
                refine then_norm ?_
                refine wp_ret ?_
                refine block_ret ?_
                refine then_ret ?_
                refine then_ret ?_
                refine block_ret ?_
                refine then_ret ?_
                have hq18 := Option.some.inj hq18
                subst hq18
                (try dsimp only at hm)
                have hm := Option.some.inj hm
                subst hm
                replace H := H.dropAt 1 rfl; simp only [List.eraseIdx_cons_succ, List.eraseIdx_cons_zero] at H
                replace H := H.dropAt 0 rfl; simp only [List.eraseIdx_cons_succ, List.eraseIdx_cons_zero] at H
                exact ret1 rfl (rv_tmp rfl) rfl ⟨rfl, H⟩
              · have hc7 := hc
                clear hc
                replace hq18 := ifF hc7 hq18
                refine wp_skip ?_
                refine block_norm ?_
                refine then_norm ?_
                refine wp_region_lit ?_
                apply seq_op (V := .int .i64 (IntKind.i64.wrap ((k18 : Int) + 1))) rfl
                · intro Φ hΦ; refine O_bin rfl rfl rfl eqg_int r_add ?_; exact hΦ
                (try simp only [Act.put, List.setIfInBounds_toArray, List.set_cons_succ, List.set_cons_zero])
                apply seq_op (V := .int .i64 (IntKind.i64.wrap ((k18 : Int) + 1))) rfl
                · intro Φ hΦ; refine O_mv rfl rfl ?_; exact hΦ
                (try simp only [Act.put, List.setIfInBounds_toArray, List.set_cons_succ, List.set_cons_zero])
                refine list_end ?_
                refine then_norm ?_
                replace H := H.drop
                refine ⟨⟨⟨rfl, rfl, rfl, rfl, rfl, rfl, rfl, rfl, rfl, rfl, rfl, rfl, rfl, rfl, rfl, rfl, rfl, rfl, rfl, rfl, rfl, rfl, rfl, rfl, rfl, rfl, rfl, rfl, rfl, rfl, rfl, rfl, rfl, rfl, rfl, rfl, rfl, rfl, rfl, rfl, rfl, rfl, rfl, rfl, rfl, rfl, rfl, rfl, rfl, rfl, rfl, rfl, rfl, rfl, rfl, rfl, rfl, rfl, rfl, rfl, rfl, rfl⟩, rfl⟩, ⟨k18 + 1, _, hd18'', wrap_succ hl18 hn18, hq18, H⟩, ?_⟩
                exact meas_succ hl18 hn18
            · replace hq18 := ifF hg1 hq18
              refine wp_region_lit ?_
              apply seq_op (V := .pointer (some ⟨b11, 1, none⟩)) rfl
              · intro Φ hΦ; refine O_fld rfl Try.underlying30 rfl (Try.sizeOf3 _) rfl ?_; exact hΦ
              (try simp only [Act.put, List.setIfInBounds_toArray, List.set_cons_succ, List.set_cons_zero])
              apply seq_op (V := .int .i64 x18.state) rfl
              · intro Φ hΦ; refine L_1 0 _ _ rfl (Try.isAgg3 _) rfl H rfl rfl ?_; exact hΦ
              (try simp only [Act.put, List.setIfInBounds_toArray, List.set_cons_succ, List.set_cons_zero])
              apply seq_op (V := .bool (x18.state == 1)) rfl
              · intro Φ hΦ; refine O_bin rfl rfl rfl eqg_int r_eql ?_; exact hΦ
              (try simp only [Act.put, List.setIfInBounds_toArray, List.set_cons_succ, List.set_cons_zero])
              apply seq_op (V := .bool (x18.state == 1)) rfl
              · intro Φ hΦ; refine O_mv rfl rfl ?_; exact hΦ
              (try simp only [Act.put, List.setIfInBounds_toArray, List.set_cons_succ, List.set_cons_zero])
              refine seq_skip ((wanted_t rfl rfl rfl).trans hg1) ?_
              (try simp only [Act.put, List.setIfInBounds_toArray, List.set_cons_succ, List.set_cons_zero])
              refine seq_skip ((wanted_t rfl rfl rfl).trans hg1) ?_
              (try simp only [Act.put, List.setIfInBounds_toArray, List.set_cons_succ, List.set_cons_zero])
              refine seq_skip ((wanted_t rfl rfl rfl).trans hg1) ?_
              (try simp only [Act.put, List.setIfInBounds_toArray, List.set_cons_succ, List.set_cons_zero])
              refine seq_skip ((wanted_t rfl rfl rfl).trans hg1) ?_
              (try simp only [Act.put, List.setIfInBounds_toArray, List.set_cons_succ, List.set_cons_zero])
              refine seq_skip ((wanted_t rfl rfl rfl).trans hg1) ?_
              (try simp only [Act.put, List.setIfInBounds_toArray, List.set_cons_succ, List.set_cons_zero])
              apply seq_op (V := .bool false) rfl
              · intro Φ hΦ; refine O_pickF rfl rfl hg1 rfl ?_; exact hΦ
              (try simp only [Act.put, List.setIfInBounds_toArray, List.set_cons_succ, List.set_cons_zero])
              refine list_end ?_
              refine then_norm ?_
              refine wp_cond_false rfl ?_
              refine wp_skip ?_
              refine block_norm ?_
              refine then_norm ?_
              refine wp_region_lit ?_
              apply seq_op (V := .int .i64 (IntKind.i64.wrap ((k18 : Int) + 1))) rfl
              · intro Φ hΦ; refine O_bin rfl rfl rfl eqg_int r_add ?_; exact hΦ
              (try simp only [Act.put, List.setIfInBounds_toArray, List.set_cons_succ, List.set_cons_zero])
              apply seq_op (V := .int .i64 (IntKind.i64.wrap ((k18 : Int) + 1))) rfl
              · intro Φ hΦ; refine O_mv rfl rfl ?_; exact hΦ
              (try simp only [Act.put, List.setIfInBounds_toArray, List.set_cons_succ, List.set_cons_zero])
              refine list_end ?_
              refine then_norm ?_
              replace H := H.drop
              refine ⟨⟨⟨rfl, rfl, rfl, rfl, rfl, rfl, rfl, rfl, rfl, rfl, rfl, rfl, rfl, rfl, rfl, rfl, rfl, rfl, rfl, rfl, rfl, rfl, rfl, rfl, rfl, rfl, rfl, rfl, rfl, rfl, rfl, rfl, rfl, rfl, rfl, rfl, rfl, rfl, rfl, rfl, rfl, rfl, rfl, rfl, rfl, rfl, rfl, rfl, rfl, rfl, rfl, rfl, rfl, rfl, rfl, rfl, rfl, rfl, rfl, rfl, rfl, rfl⟩, rfl⟩, ⟨k18 + 1, _, hd18'', wrap_succ hl18 hn18, hq18, H⟩, ?_⟩
              exact meas_succ hl18 hn18
          · have hc6 := hc
            clear hc
            obtain rfl := rng_f hd18 hc6
            rw [assayerref17_Right_l18] at hq18
            refine wp_exit ?_
            refine then_exit ?_
            refine then_exit ?_
            have hq18 := Option.some.inj hq18
            subst hq18
            (try dsimp only at hm)
            refine block_exit ?_
            refine then_norm ?_
            refine wp_seq ?_
            refine wp_region_lit ?_
            apply seq_op (V := .bool true) rfl
            · intro Φ hΦ; refine O_as rfl rfl ?_; exact hΦ
            (try simp only [Act.put, List.setIfInBounds_toArray, List.set_cons_succ, List.set_cons_zero])
            refine list_end ?_
            refine then_norm ?_
            refine wp_ret ?_
            have hm := Option.some.inj hm
            subst hm
            replace H := H.dropAt 0 rfl; simp only [List.eraseIdx_cons_succ, List.eraseIdx_cons_zero] at H
            exact ret1 rfl (rv_tmp rfl) rfl ⟨rfl, H⟩
def assayerlaw17_SearchRight_f (fuel : Nat) (a0 : List Txn) (a1 : List Int) : Option Bool := (search_Right_f a0 a1).bind fun u1 => (assayerref17_Right_f fuel a0 a1).bind fun u2 => some (u1 == u2)

set_option maxHeartbeats 4000000 in
theorem assayerlaw17_SearchRight_w {E : World} {s : SH} {L : List HP} {w : World} {fuel : Nat} {a0 : List Txn} {a1 : List Int} {A_p0 : Option Addr} {c_p0 : Nat} (h_p0 : kT.Sl s (.slice A_p0 a0.length c_p0) a0) {A_p1 : Option Addr} {c_p1 : Nat} (h_p1 : kI.Sl s (.slice A_p1 a1.length c_p1) a1) {R : Bool} (hm : assayerlaw17_SearchRight_f fuel a0 a1 = some R) (H : Holds E s (L) w) :
    Calls Try.prog 9 #[.slice A_p0 a0.length c_p0, .slice A_p1 a1.length c_p1] w fun e w' => e = .returned (.bool R) ∧ Holds E s (L) w' := by
  unfold assayerlaw17_SearchRight_f at hm
  go_enter Try.func9, Try.ntmps9
  refine wp_seq ?_
  refine wp_region_lit ?_
  apply seq_op (V := .bool false) rfl
  · intro Φ hΦ; refine O_as rfl rfl ?_; exact hΦ
  (try simp only [Act.put, List.setIfInBounds_toArray, List.set_cons_succ, List.set_cons_zero])
  refine list_end ?_
  refine then_norm ?_
  refine wp_seq ?_
  obtain ⟨u1, gx1, hm⟩ := bs hm
  obtain ⟨u2, gx2, hm⟩ := bs hm
  refine wp_region_lit ?_
  apply seq_op (V := .slice A_p0 a0.length c_p0) rfl
  · intro Φ hΦ; refine O_mv rfl rfl ?_; exact hΦ
  (try simp only [Act.put, List.setIfInBounds_toArray, List.set_cons_succ, List.set_cons_zero])
  apply seq_op (V := .slice A_p1 a1.length c_p1) rfl
  · intro Φ hΦ; refine O_mv rfl rfl ?_; exact hΦ
  (try simp only [Act.put, List.setIfInBounds_toArray, List.set_cons_succ, List.set_cons_zero])
  refine seq_call rfl (fun Φ hΦ => by refine O_call2 rfl Try.func44 rfl rfl rfl rfl hΦ) (search_Right_w (a0 := a0) (h_p0 := h_p0) (a1 := a1) (h_p1 := h_p1) (hm := gx1) (H := H)) ?_
  clear H
  rintro e w1 ⟨rfl, H⟩; refine ⟨_, rfl, ?_⟩
  (try simp only [Act.put, List.setIfInBounds_toArray, List.set_cons_succ, List.set_cons_zero])
  apply seq_op (V := .slice A_p0 a0.length c_p0) rfl
  · intro Φ hΦ; refine O_mv rfl rfl ?_; exact hΦ
  (try simp only [Act.put, List.setIfInBounds_toArray, List.set_cons_succ, List.set_cons_zero])
  apply seq_op (V := .slice A_p1 a1.length c_p1) rfl
  · intro Φ hΦ; refine O_mv rfl rfl ?_; exact hΦ
  (try simp only [Act.put, List.setIfInBounds_toArray, List.set_cons_succ, List.set_cons_zero])
  refine seq_call rfl (fun Φ hΦ => by refine O_call2 rfl Try.func45 rfl rfl rfl rfl hΦ) (assayerref17_Right_w (fuel := fuel) (a0 := a0) (h_p0 := h_p0) (a1 := a1) (h_p1 := h_p1) (hm := gx2) (H := H)) ?_
  clear H
  rintro e w1 ⟨rfl, H⟩; refine ⟨_, rfl, ?_⟩
  (try simp only [Act.put, List.setIfInBounds_toArray, List.set_cons_succ, List.set_cons_zero])
  apply seq_op (V := .bool (u1 == u2)) rfl
  · intro Φ hΦ; refine O_bin rfl rfl rfl eqg_bool (r_beq Try.underlying4) ?_; exact hΦ
  (try simp only [Act.put, List.setIfInBounds_toArray, List.set_cons_succ, List.set_cons_zero])
  apply seq_op (V := .bool (u1 == u2)) rfl
  · intro Φ hΦ; refine O_as rfl rfl ?_; exact hΦ
  (try simp only [Act.put, List.setIfInBounds_toArray, List.set_cons_succ, List.set_cons_zero])
  refine list_end ?_
  refine then_norm ?_
  refine wp_ret ?_
  have hm := Option.some.inj hm
  subst hm
  exact ret1 rfl (rv_tmp rfl) rfl ⟨rfl, H⟩
end Go.Proofs.Ytemdmpgekegfhaa
