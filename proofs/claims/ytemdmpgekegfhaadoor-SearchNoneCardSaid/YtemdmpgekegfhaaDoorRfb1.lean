/- Walks, printed by fx.py: part 1. -/
import Derived.Test.YtemdmpgekegfhaaDoorMob2
namespace Go.Proofs.YtemdmpgekegfhaaDoor
open Go.RowKit
set_option linter.all false
set_option maxRecDepth 10000
def assayerref16_State_List_l3 (a1 : ByteArray) : Nat → List Op' → (List Int) → Option (((List Int)))
  | k3, [] , y3_5 => some y3_5
  | k3, x3 :: r3, y3_5 => if ((x3.kind == 1) && (x3.key.toList == a1.toList)) = true then ((app 8 y3_5 x3.value).bind fun u1 => assayerref16_State_List_l3 a1 (k3 + 1) r3 u1) else (assayerref16_State_List_l3 a1 (k3 + 1) r3 y3_5)

def assayerref16_State_List_f (a0 : St16) (a1 : ByteArray) : Option ((List Int)) := (assayerref16_State_List_l3 a1 0 a0.l []).bind fun z3_5 => some z3_5

set_option maxHeartbeats 4000000 in
theorem assayerref16_State_List_w {E : World} {s : SH} {L : List HP} {w : World} {a0 : St16} {a1 : ByteArray} {A_p0_l : Option Addr} {c_p0_l : Nat} (h_p0_l : kOp.Sl s (.slice A_p0_l a0.l.length c_p0_l) a0.l) {b_p0 o_p0 : Nat} (hC_p0 : Cells s ⟨b_p0, o_p0, none⟩ [.slice A_p0_l a0.l.length c_p0_l]) {R : (List Int)} (hm : assayerref16_State_List_f a0 a1 = some R) (H : Holds E s (L) w) :
    Calls Tryd.prog 92 #[.pointer (some ⟨b_p0, o_p0, none⟩), .string a1] w fun e w' => ∃ A0 c0 n0, e = .returned (.slice A0 n0 c0) ∧ Holds E s ((kI.sh s).Osl (.slice A0 n0 c0) R :: L) w' := by
  unfold assayerref16_State_List_f at hm
  go_enter Tryd.func92, Tryd.ntmps92
  refine wp_seq ?_
  refine wp_region_lit ?_
  apply seq_op (V := .slice none 0 0) rfl
  · exact fun _ h => O_as rfl rfl h
  (try simp only [PT])
  refine list_end ?_
  refine then_norm ?_
  refine wp_seq ?_
  refine wp_region_lit ?_
  apply seq_op (V := .slice none 0 0) rfl
  · exact fun _ h => O_as rfl rfl h
  (try simp only [PT])
  refine list_end ?_
  refine then_norm ?_
  refine wp_seq ?_
  refine wp_seq ?_
  refine wp_region_lit ?_
  apply seq_op (V := .pointer (some ⟨b_p0, o_p0, none⟩)) rfl
  · exact fun _ h => O_mv rfl rfl h
  (try simp only [PT])
  apply seq_op (V := .pointer (some ⟨b_p0, o_p0, none⟩)) rfl
  · exact fun _ h => O_nil rfl rfl h
  (try simp only [PT])
  apply seq_op (V := .pointer (some ⟨b_p0, o_p0, none⟩)) rfl
  · exact fun _ h => O_fld rfl Tryd.underlying143 rfl (Tryd.sizeOf71 _) rfl h
  (try simp only [PT])
  apply seq_op (V := .slice A_p0_l a0.l.length c_p0_l) rfl
  · exact fun _ h => G_s1 _ _ rfl (Tryd.isAgg71 _) rfl H hC_p0 0 rfl rfl h
  (try simp only [PT])
  apply seq_op (V := .int .i64 (a0.l.length : Int)) rfl
  · exact fun _ h => O_len rfl Tryd.underlying71 rfl h
  (try simp only [PT])
  apply seq_op (V := .int .i64 0) rfl
  · exact fun _ h => O_mv rfl rfl h
  (try simp only [PT])
  refine list_end ?_
  refine then_norm ?_
  refine wp_block ?_
  replace H := Kin.Osl.nil (d := kI.sh s) H
  obtain ⟨R3, hq3, hm⟩ := bs hm
  have hn3 := Nat.le_trans (len_le (d := kOp) h_p0_l (by decide)) (by decide : (140737488355328 : Nat) ≤ 9223372036854775807)
  refine wp_loopF [none, none, none, none, none, some 5, none, some 7, none, none, none, none, none, some 13, some 14, some 15, some 16, some 17, some 18, some 19, some 20, some 21, some 22, some 23, some 24, some 25, some 26, some 27, some 28, some 29, some 30, some 31, none] rfl (by simp) (fun f w => ∃ (k3 : Nat) (r3 : List Op') (y3_5 : List Int) (A_y3_5 : Option Addr) (c_y3_5 : Nat), a0.l.drop k3 = r3 ∧ f 13 = .int .i64 (k3 : Int) ∧ f 5 = .slice A_y3_5 y3_5.length c_y3_5 ∧ assayerref16_State_List_l3 a1 k3 r3 y3_5 = some R3 ∧ Holds E s ((kI.sh s).Osl (.slice A_y3_5 y3_5.length c_y3_5) y3_5 :: L) w) (fun f w => a0.l.length - (intOf (f 13)).toNat) ?_ ?_
  · exact ⟨0, a0.l, [], none, 0, rfl, rfl, rfl, hq3, H⟩
  · clear H
    intro f w hI
    obtain ⟨k3, r3, y3_5, A_y3_5, c_y3_5, hd3, hf13, hf5, hq3', H⟩ := hI
    clear hq3; have hq3 := hq3'; clear hq3'
    simp only [ovm, mixM]
    simp only [hf13, hf5]; clear hf13 hf5
    refine wp_seq ?_
    refine wp_region_lit ?_
    apply seq_op (V := .bool (decide ((k3 : Int) < (a0.l.length : Int)))) rfl
    · exact fun _ h => O_bin rfl rfl rfl eqg_int r_lss h
    (try simp only [PT])
    refine list_end ?_
    refine then_norm ?_
    refine wp_seq ?_
    refine wp_cond_split rfl (fun hc => ?_) (fun hc => ?_)
    · have hc1 := hc
      clear hc
      obtain ⟨x3, r3', rfl, hd3', hd3'', hl3⟩ := rng_t hd3 hc1
      rw [assayerref16_State_List_l3] at hq3
      refine wp_skip ?_
      refine then_norm ?_
      refine wp_seq ?_
      refine wp_block ?_
      refine wp_seq ?_
      obtain ⟨be1, oe1, A3e1, c3e1, rfl, hCe1, h0e1, h1e1, h2e1, h3e1⟩ := kOp_el h_p0_l hd3'
      refine wp_region_lit ?_
      apply seq_op (V := .pointer (some ⟨be1, oe1 + k3 * 6, none⟩)) rfl
      · exact fun _ h => O_ix rfl Tryd.underlying71 (Tryd.sizeOf108 _) rfl rfl rfl hl3 h
      (try simp only [PT])
      apply seq_op (V := .agg #[.int .i64 x3.kind, .string x3.key, .int .i64 x3.value, .slice A3e1 x3.list.length c3e1, .bool x3.has, .bool x3.isNil]) rfl
      · exact fun _ h => G_sN _ _ rfl (Tryd.isAgg108 _) rfl H hCe1 (Tryd.sizeOf108 _) h
      (try simp only [PT])
      refine OpG.list rfl ?_; refine G_alloc 108 rfl (Tryd.zeroValue108 _) H ?_; clear H; intro b7 w1 H; (try simp only [Value.cells] at H)
      (try simp only [PT])
      refine OpG.list rfl ?_; refine G_setNi 0 (c := [.int .i64 x3.kind, .string x3.key, .int .i64 x3.value, .slice A3e1 x3.list.length c3e1, .bool x3.has, .bool x3.isNil]) _ _ _ rfl (Tryd.sizeOf108 _) rfl rfl (by simp [Value.oneCell']) H rfl rfl ?_; clear H; intro w1 H; simp only [List.set_cons_succ, List.set_cons_zero] at H
      (try simp only [PT])
      refine list_end ?_
      refine then_norm ?_
      refine wp_seq ?_
      refine wp_region_lit ?_
      apply seq_op (V := .pointer (some ⟨b7, 0, none⟩)) rfl
      · exact fun _ h => O_fld rfl Tryd.underlying108 rfl (Tryd.sizeOf3 _) rfl h
      (try simp only [PT])
      apply seq_op (V := .int .i64 x3.kind) rfl
      · exact fun _ h => L_1 0 _ _ rfl (Tryd.isAgg3 _) rfl H rfl rfl h
      (try simp only [PT])
      apply seq_op (V := .bool (x3.kind == 1)) rfl
      · exact fun _ h => O_bin rfl rfl rfl eqg_int r_eql h
      (try simp only [PT])
      apply seq_op (V := .bool (x3.kind == 1)) rfl
      · exact fun _ h => O_mv rfl rfl h
      (try simp only [PT])
      refine seq_opg (c := (x3.kind == 1)) (V := .pointer (some ⟨b7, 1, none⟩)) (by first | exact wanted_t rfl rfl rfl | exact wanted_vt rfl rfl rfl) ?_ ?_
      · intro hc Φ hΦ; refine O_fld rfl Tryd.underlying108 rfl (Tryd.sizeOf9 _) rfl ?_; exact hΦ
      (try simp only [PT])
      refine seq_opg (c := (x3.kind == 1)) (V := .string x3.key) (by first | exact wanted_t rfl rfl rfl | exact wanted_vt rfl rfl rfl) ?_ ?_
      · intro hc Φ hΦ; (repeat (first | rw [vg_of hc] | rw [vg_of (and_l hc)] | rw [vg_of (and_l (and_l hc))] | rw [vg_of (and_l (and_l (and_l hc)))] | rw [vg_and hc])); refine L_1 0 _ _ rfl (Tryd.isAgg9 _) rfl H rfl rfl ?_; exact hΦ
      (try simp only [PT])
      refine seq_opg (c := (x3.kind == 1)) (V := .string a1) (by first | exact wanted_t rfl rfl rfl | exact wanted_vt rfl rfl rfl) ?_ ?_
      · intro hc Φ hΦ; refine O_mv rfl rfl ?_; exact hΦ
      (try simp only [PT])
      refine seq_opg (c := (x3.kind == 1)) (V := .bool (x3.key.toList == a1.toList)) (by first | exact wanted_t rfl rfl rfl | exact wanted_vt rfl rfl rfl) ?_ ?_
      · intro hc Φ hΦ; (repeat (first | rw [vg_of hc] | rw [vg_of (and_l hc)] | rw [vg_of (and_l (and_l hc))] | rw [vg_of (and_l (and_l (and_l hc)))] | rw [vg_and hc])); refine O_bin rfl rfl rfl eqg_str r_seq ?_; exact hΦ
      (try simp only [PT])
      apply seq_op (V := .bool ((x3.kind == 1) && (x3.key.toList == a1.toList))) rfl
      · exact fun _ h => G_and _ _ _ rfl rfl rfl rfl h
      (try simp only [PT])
      refine list_end ?_
      refine then_norm ?_
      refine wp_cond_split rfl (fun hc => ?_) (fun hc => ?_)
      · have hc2 := hc
        clear hc
        replace hq3 := ifT hc2 hq3
        obtain ⟨u1, gx1, hq3⟩ := bs hq3
        obtain ⟨hroomgx1, egx1⟩ := app_some gx1
        refine wp_region_lit ?_
        apply seq_op (V := .slice A_y3_5 y3_5.length c_y3_5) rfl
        · exact fun _ h => O_mv rfl rfl h
        (try simp only [PT])
        apply seq_op (V := .pointer (some ⟨b7, 2, none⟩)) rfl
        · exact fun _ h => O_fld rfl Tryd.underlying108 rfl (Tryd.sizeOf3 _) rfl h
        (try simp only [PT])
        apply seq_op (V := .int .i64 x3.value) rfl
        · exact fun _ h => L_1 0 _ _ rfl (Tryd.isAgg3 _) rfl H rfl rfl h
        (try simp only [PT])
        refine OpG.list rfl ?_; refine SL_1 rfl (v := .int .i64 x3.value) rfl Tryd.underlying27 Tryd.sizeOf3 Tryd.zeroValue3 rfl rfl (by decide) (by decide) H ?_; clear H; intro b29 w1 H; (try simp only [Value.cells] at H)
        (try simp only [PT])
        refine OpG.list rfl ?_; refine AP_1 (p := x3.value) 1 kI_at _ _ rfl (kI_mk' (s := s) (x := x3.value) h2e1) H rfl rfl rfl hroomgx1 ?_; clear H; intro v1 w1 H; (try simp only [List.set_cons_succ, List.set_cons_zero] at H)
        rw [← egx1] at H
        obtain ⟨Av1, cv1, rfl, -⟩ := (H.front 1 rfl).len
        (try simp only [PT])
        apply seq_op (V := .slice Av1 u1.length cv1) rfl
        · exact fun _ h => O_as rfl rfl h
        (try simp only [PT])
        refine list_end ?_
        refine block_norm ?_
        refine then_norm ?_
        refine wp_region_lit ?_
        apply seq_op (V := .int .i64 (IntKind.i64.wrap ((k3 : Int) + 1))) rfl
        · exact fun _ h => O_bin rfl rfl rfl eqg_int r_add h
        (try simp only [PT])
        apply seq_op (V := .int .i64 (IntKind.i64.wrap ((k3 : Int) + 1))) rfl
        · exact fun _ h => O_mv rfl rfl h
        (try simp only [PT])
        refine list_end ?_
        refine then_norm ?_
        replace H := H.drop
        refine ⟨⟨⟨rfl, rfl, rfl, rfl, rfl, rfl, rfl, rfl, rfl, rfl, rfl, rfl, rfl⟩, rfl⟩, ⟨k3 + 1, _, u1, Av1, cv1, hd3'', wrap_succ hl3 hn3, rfl, hq3, H⟩, ?_⟩
        exact meas_succ hl3 hn3
      · have hc2 := hc
        clear hc
        replace hq3 := ifF hc2 hq3
        refine wp_skip ?_
        refine block_norm ?_
        refine then_norm ?_
        refine wp_region_lit ?_
        apply seq_op (V := .int .i64 (IntKind.i64.wrap ((k3 : Int) + 1))) rfl
        · exact fun _ h => O_bin rfl rfl rfl eqg_int r_add h
        (try simp only [PT])
        apply seq_op (V := .int .i64 (IntKind.i64.wrap ((k3 : Int) + 1))) rfl
        · exact fun _ h => O_mv rfl rfl h
        (try simp only [PT])
        refine list_end ?_
        refine then_norm ?_
        replace H := H.drop
        refine ⟨⟨⟨rfl, rfl, rfl, rfl, rfl, rfl, rfl, rfl, rfl, rfl, rfl, rfl, rfl⟩, rfl⟩, ⟨k3 + 1, _, y3_5, A_y3_5, c_y3_5, hd3'', wrap_succ hl3 hn3, rfl, hq3, H⟩, ?_⟩
        exact meas_succ hl3 hn3
    · have hc1 := hc
      clear hc
      obtain rfl := rng_f hd3 hc1
      rw [assayerref16_State_List_l3] at hq3
      refine wp_exit ?_
      refine then_exit ?_
      refine then_exit ?_
      have hq3 := Option.some.inj hq3
      subst hq3
      (try dsimp only at hm)
      refine block_exit ?_
      refine then_norm ?_
      refine wp_seq ?_
      refine wp_region_lit ?_
      apply seq_op (V := .slice A_y3_5 y3_5.length c_y3_5) rfl
      · exact fun _ h => O_mv rfl rfl h
      (try simp only [PT])
      apply seq_op (V := .slice A_y3_5 y3_5.length c_y3_5) rfl
      · exact fun _ h => O_as rfl rfl h
      (try simp only [PT])
      refine list_end ?_
      refine then_norm ?_
      refine wp_ret ?_
      have hm := Option.some.inj hm
      subst hm
      exact ret1 rfl (rv_tmp rfl) rfl ⟨A_y3_5, c_y3_5, y3_5.length, rfl, H⟩
def assayerref02_SameList_l4 (a1 : List Int) : Nat → List Int → Option ((Bool ⊕ Unit))
  | k4, []  => some (.inr ())
  | k4, x4 :: r4 => (rdI a1 (k4 : Int)).bind fun u1 => if (x4 != u1) = true then (some (.inl false)) else (assayerref02_SameList_l4 a1 (k4 + 1) r4)

def assayerref02_SameList_f (a0 : List Int) (a1 : List Int) : Option Bool := if ((a0.length : Int) != (a1.length : Int)) = true then (some false) else ((assayerref02_SameList_l4 a1 0 a0).bind fun | .inl z4_r => (some z4_r) | .inr () => (some true))

set_option maxHeartbeats 4000000 in
theorem assayerref02_SameList_w {E : World} {s : SH} {L : List HP} {w : World} {a0 : List Int} {a1 : List Int} {A_p0 : Option Addr} {c_p0 : Nat} (h_p0 : kI.Sl s (.slice A_p0 a0.length c_p0) a0) {A_p1 : Option Addr} {c_p1 : Nat} (h_p1 : kI.Sl s (.slice A_p1 a1.length c_p1) a1) {R : Bool} (hm : assayerref02_SameList_f a0 a1 = some R) (H : Holds E s (L) w) :
    Calls Tryd.prog 91 #[.slice A_p0 a0.length c_p0, .slice A_p1 a1.length c_p1] w fun e w' => e = .returned (.bool R) ∧ Holds E s (L) w' := by
  unfold assayerref02_SameList_f at hm
  go_enter Tryd.func91, Tryd.ntmps91
  refine wp_seq ?_
  refine wp_region_lit ?_
  apply seq_op (V := .bool false) rfl
  · exact fun _ h => O_as rfl rfl h
  (try simp only [PT])
  refine list_end ?_
  refine then_norm ?_
  refine wp_seq ?_
  refine wp_seq ?_
  refine wp_region_lit ?_
  apply seq_op (V := .slice A_p0 a0.length c_p0) rfl
  · exact fun _ h => O_mv rfl rfl h
  (try simp only [PT])
  apply seq_op (V := .int .i64 (a0.length : Int)) rfl
  · exact fun _ h => O_len rfl Tryd.underlying27 rfl h
  (try simp only [PT])
  apply seq_op (V := .slice A_p1 a1.length c_p1) rfl
  · exact fun _ h => O_mv rfl rfl h
  (try simp only [PT])
  apply seq_op (V := .int .i64 (a1.length : Int)) rfl
  · exact fun _ h => O_len rfl Tryd.underlying27 rfl h
  (try simp only [PT])
  apply seq_op (V := .bool ((a0.length : Int) != (a1.length : Int))) rfl
  · exact fun _ h => O_bin rfl rfl rfl eqg_int r_neq h
  (try simp only [PT])
  refine list_end ?_
  refine then_norm ?_
  refine wp_cond_split rfl (fun hc => ?_) (fun hc => ?_)
  · have hc1 := hc
    clear hc
    replace hm := ifT hc1 hm
    refine wp_seq ?_
    refine wp_region_lit ?_
    apply seq_op (V := .bool false) rfl
    · exact fun _ h => O_as rfl rfl h
    (try simp only [PT])
    refine list_end ?_
    refine then_norm ?_
    refine wp_ret ?_
    refine then_ret ?_
    have hm := Option.some.inj hm
    subst hm
    exact ret1 rfl (rv_tmp rfl) rfl ⟨rfl, H⟩
  · have hc1 := hc
    clear hc
    replace hm := ifF hc1 hm
    refine wp_skip ?_
    refine then_norm ?_
    refine wp_seq ?_
    refine wp_seq ?_
    refine wp_region_lit ?_
    apply seq_op (V := .slice A_p0 a0.length c_p0) rfl
    · exact fun _ h => O_mv rfl rfl h
    (try simp only [PT])
    apply seq_op (V := .int .i64 (a0.length : Int)) rfl
    · exact fun _ h => O_len rfl Tryd.underlying27 rfl h
    (try simp only [PT])
    apply seq_op (V := .int .i64 0) rfl
    · exact fun _ h => O_mv rfl rfl h
    (try simp only [PT])
    refine list_end ?_
    refine then_norm ?_
    refine wp_block ?_
    obtain ⟨R4, hq4, hm⟩ := bs hm
    have hn4 := Nat.le_trans (len_le (d := kI) h_p0 (by decide)) (by decide : (140737488355328 : Nat) ≤ 9223372036854775807)
    refine wp_loopF [none, none, none, none, some 4, some 5, none, none, none, none, none, none, none, some 13, some 14, some 15, some 16, some 17, some 18, some 19, some 20, some 21, some 22, some 23, some 24, some 25] rfl (by simp) (fun f w => ∃ (k4 : Nat) (r4 : List Int), a0.drop k4 = r4 ∧ f 13 = .int .i64 (k4 : Int) ∧ assayerref02_SameList_l4 a1 k4 r4 = some R4 ∧ Holds E s (L) w) (fun f w => a0.length - (intOf (f 13)).toNat) ?_ ?_
    · exact ⟨0, a0, rfl, rfl, hq4, H⟩
    · clear H
      intro f w hI
      obtain ⟨k4, r4, hd4, hf13, hq4', H⟩ := hI
      clear hq4; have hq4 := hq4'; clear hq4'
      simp only [ovm, mixM]
      simp only [hf13]; clear hf13
      refine wp_seq ?_
      refine wp_region_lit ?_
      apply seq_op (V := .bool (decide ((k4 : Int) < (a0.length : Int)))) rfl
      · exact fun _ h => O_bin rfl rfl rfl eqg_int r_lss h
      (try simp only [PT])
      refine list_end ?_
      refine then_norm ?_
      refine wp_seq ?_
      refine wp_cond_split rfl (fun hc => ?_) (fun hc => ?_)
      · have hc2 := hc
        clear hc
        obtain ⟨x4, r4', rfl, hd4', hd4'', hl4⟩ := rng_t hd4 hc2
        rw [assayerref02_SameList_l4] at hq4
        refine wp_skip ?_
        refine then_norm ?_
        refine wp_seq ?_
        refine wp_block ?_
        refine wp_seq ?_
        refine wp_region_lit ?_
        apply seq_op (V := .int .i64 (k4 : Int)) rfl
        · exact fun _ h => O_mv rfl rfl h
        (try simp only [PT])
        apply seq_op (V := .int .i64 (k4 : Int)) rfl
        · exact fun _ h => O_as rfl rfl h
        (try simp only [PT])
        refine list_end ?_
        refine then_norm ?_
        refine wp_seq ?_
        obtain ⟨be1, oe1, rfl, hCe1, h0e1⟩ := kI_el h_p0 hd4'
        obtain ⟨u1, gx1, hq4⟩ := bs hq4
        obtain ⟨kk1, gk1, gl1, gd1⟩ := rdI_some gx1
        obtain ⟨be2, oe2, rfl, hCe2, h0e2⟩ := kI_el h_p1 gd1
        refine wp_draw_obO (k := 9) (sz := 26) (List.replicate 9 9) (fun _ => []) mixed (by simp) rfl (by kernel_rfl) (by kernel_rfl) (by kernel_rfl) H (by simp only [List.take_succ_cons, List.take_zero]; exact rfl) (by simp only [List.drop_succ_cons, List.drop_zero]; exact rfl)
          (fun y => by simp only [ov, Act.put, List.setIfInBounds_toArray, List.set_cons_succ, List.set_cons_zero, Nat.zero_add, Nat.reduceAdd]; exact rfl) ?_
        apply ObO.valw (V := .slice (some ⟨be1, oe1, none⟩) a0.length c_p0)
        · intro x; rfl
        · intro s' w' y Φ R hs H hG hΦ; refine wantG rfl ?_; refine O_mv rfl rfl ?_; exact hΦ _ _ (Sub.refl _) H
        apply ObO.valw (V := .int .i64 (k4 : Int))
        · intro x; rfl
        · intro s' w' y Φ R hs H hG hΦ; refine wantG rfl ?_; refine O_mv rfl rfl ?_; exact hΦ _ _ (Sub.refl _) H
        apply ObO.valw (V := .pointer (some ⟨be1, oe1 + k4 * 1, none⟩))
        · intro x; rfl
        · intro s' w' y Φ R hs H hG hΦ; simp only [List.nil_append, List.cons_append] at hG; have e0 : y 0 = _ := dh_get hG 0 rfl (by kernel_rfl); have e1 : y 1 = _ := dh_get hG 1 rfl (by kernel_rfl); simp only [e0, e1]; refine wantG rfl ?_; refine O_ix rfl Tryd.underlying27 (Tryd.sizeOf3 _) rfl rfl rfl hl4 ?_; exact hΦ _ _ (Sub.refl _) H
        apply ObO.valw (V := .int .i64 x4)
        · intro x; rfl
        · intro s' w' y Φ R hs H hG hΦ; simp only [List.nil_append, List.cons_append] at hG; have e2 : y 2 = _ := dh_get hG 2 rfl (by kernel_rfl); simp only [e2]; refine wantG rfl ?_; refine G_s1 _ _ rfl (Tryd.isAgg3 _) rfl H (hCe1.mono hs) 0 rfl rfl ?_; exact hΦ _ _ (Sub.refl _) H
        apply ObO.valw (V := .slice (some ⟨be2, oe2, none⟩) a1.length c_p1)
        · intro x; rfl
        · intro s' w' y Φ R hs H hG hΦ; refine wantG rfl ?_; refine O_mv rfl rfl ?_; exact hΦ _ _ (Sub.refl _) H
        apply ObO.valw (V := .int .i64 (k4 : Int))
        · intro x; rfl
        · intro s' w' y Φ R hs H hG hΦ; refine wantG rfl ?_; refine O_mv rfl rfl ?_; exact hΦ _ _ (Sub.refl _) H
        apply ObO.valw (V := .pointer (some ⟨be2, oe2 + kk1 * 1, none⟩))
        · intro x; rfl
        · intro s' w' y Φ R hs H hG hΦ; simp only [List.nil_append, List.cons_append] at hG; have e4 : y 4 = _ := dh_get hG 4 rfl (by kernel_rfl); have e5 : y 5 = _ := dh_get hG 5 rfl (by kernel_rfl); simp only [e4, e5]; refine wantG rfl ?_; refine O_ix rfl Tryd.underlying27 (Tryd.sizeOf3 _) rfl rfl gk1 gl1 ?_; exact hΦ _ _ (Sub.refl _) H
        apply ObO.valw (V := .int .i64 u1)
        · intro x; rfl
        · intro s' w' y Φ R hs H hG hΦ; simp only [List.nil_append, List.cons_append] at hG; have e6 : y 6 = _ := dh_get hG 6 rfl (by kernel_rfl); simp only [e6]; refine wantG rfl ?_; refine G_s1 _ _ rfl (Tryd.isAgg3 _) rfl H (hCe2.mono hs) 0 rfl rfl ?_; exact hΦ _ _ (Sub.refl _) H
        apply ObO.valw (V := .bool (x4 != u1))
        · intro x; rfl
        · intro s' w' y Φ R hs H hG hΦ; simp only [List.nil_append, List.cons_append] at hG; have e3 : y 3 = _ := dh_get hG 3 rfl (by kernel_rfl); have e7 : y 7 = _ := dh_get hG 7 rfl (by kernel_rfl); simp only [e3, e7]; refine wantG rfl ?_; refine O_bin rfl rfl rfl eqg_int r_neq ?_; exact hΦ _ _ (Sub.refl _) H
        clear H
        intro s3 w3 yy hs3 H hG
        replace H := (show Holds _ _ ([] ++ _) _ from H); rw [List.nil_append] at H
        simp only [List.nil_append, List.cons_append] at hG
        have e0 : yy 0 = _ := gh_get hG 0 rfl
        have e1 : yy 1 = _ := gh_get hG 1 rfl
        have e2 : yy 2 = _ := gh_get hG 2 rfl
        have e3 : yy 3 = _ := gh_get hG 3 rfl
        have e4 : yy 4 = _ := gh_get hG 4 rfl
        have e5 : yy 5 = _ := gh_get hG 5 rfl
        have e6 : yy 6 = _ := gh_get hG 6 rfl
        have e7 : yy 7 = _ := gh_get hG 7 rfl
        have e8 : yy 8 = _ := gh_get hG 8 rfl
        simp only [e0, e1, e2, e3, e4, e5, e6, e7, e8]
        clear hG e0 e1 e2 e3 e4 e5 e6 e7 e8
        replace H := H.forget hs3; clear hs3
        refine list_end ?_
        refine then_norm ?_
        refine wp_cond_split rfl (fun hc => ?_) (fun hc => ?_)
        · have hc3 := hc
          clear hc
          replace hq4 := ifT hc3 hq4
          refine wp_seq ?_
          refine wp_region_lit ?_
          apply seq_op (V := .bool false) rfl
          · exact fun _ h => O_as rfl rfl h
          (try simp only [PT])
          refine list_end ?_
          refine then_norm ?_
          refine wp_ret ?_
          refine block_ret ?_
          refine then_ret ?_
          refine then_ret ?_
          refine block_ret ?_
          refine then_ret ?_
          have hq4 := Option.some.inj hq4
          subst hq4
          (try dsimp only at hm)
          have hm := Option.some.inj hm
          subst hm
          exact ret1 rfl (rv_tmp rfl) rfl ⟨rfl, H⟩
        · have hc3 := hc
          clear hc
          replace hq4 := ifF hc3 hq4
          refine wp_skip ?_
          refine block_norm ?_
          refine then_norm ?_
          refine wp_region_lit ?_
          apply seq_op (V := .int .i64 (IntKind.i64.wrap ((k4 : Int) + 1))) rfl
          · exact fun _ h => O_bin rfl rfl rfl eqg_int r_add h
          (try simp only [PT])
          apply seq_op (V := .int .i64 (IntKind.i64.wrap ((k4 : Int) + 1))) rfl
          · exact fun _ h => O_mv rfl rfl h
          (try simp only [PT])
          refine list_end ?_
          refine then_norm ?_
          refine ⟨⟨⟨rfl, rfl, rfl, rfl, rfl, rfl, rfl, rfl, rfl, rfl, rfl, rfl⟩, rfl⟩, ⟨k4 + 1, _, hd4'', wrap_succ hl4 hn4, hq4, H⟩, ?_⟩
          exact meas_succ hl4 hn4
      · have hc2 := hc
        clear hc
        obtain rfl := rng_f hd4 hc2
        rw [assayerref02_SameList_l4] at hq4
        refine wp_exit ?_
        refine then_exit ?_
        refine then_exit ?_
        have hq4 := Option.some.inj hq4
        subst hq4
        (try dsimp only at hm)
        refine block_exit ?_
        refine then_norm ?_
        refine wp_seq ?_
        refine wp_region_lit ?_
        apply seq_op (V := .bool true) rfl
        · exact fun _ h => O_as rfl rfl h
        (try simp only [PT])
        refine list_end ?_
        refine then_norm ?_
        refine wp_ret ?_
        have hm := Option.some.inj hm
        subst hm
        exact ret1 rfl (rv_tmp rfl) rfl ⟨rfl, H⟩
def assayerref16_State_Value_l2 (a0 : St16) (a1 : ByteArray) : Nat → Int → Option (((Int × Bool) ⊕ Unit))
  | 0, _ => none
  | r2 + 1, y2_6 => if (decide (y2_6 ≥ 0)) = true then ((rdI a0.l y2_6).bind fun u1 => if ((u1.kind == 3) && (u1.key.toList == a1.toList)) = true then (some (.inl (u1.value, true))) else (assayerref16_State_Value_l2 a0 a1 r2 (IntKind.i64.wrap (y2_6 - 1)))) else (some (.inr ()))

def assayerref16_State_Value_f (fuel : Nat) (a0 : St16) (a1 : ByteArray) : Option (Int × Bool) := (assayerref16_State_Value_l2 a0 a1 fuel (IntKind.i64.wrap ((a0.l.length : Int) - 1))).bind fun | .inl z2_r => (some z2_r) | .inr () => (some (0, false))

set_option maxHeartbeats 4000000 in
theorem assayerref16_State_Value_w {E : World} {s : SH} {L : List HP} {w : World} {fuel : Nat} {a0 : St16} {a1 : ByteArray} {A_p0_l : Option Addr} {c_p0_l : Nat} (h_p0_l : kOp.Sl s (.slice A_p0_l a0.l.length c_p0_l) a0.l) {b_p0 o_p0 : Nat} (hC_p0 : Cells s ⟨b_p0, o_p0, none⟩ [.slice A_p0_l a0.l.length c_p0_l]) {R : Int × Bool} (hm : assayerref16_State_Value_f fuel a0 a1 = some R) (H : Holds E s (L) w) :
    Calls Tryd.prog 90 #[.pointer (some ⟨b_p0, o_p0, none⟩), .string a1] w fun e w' => e = .returned (.tuple #[.int .i64 R.1, .bool R.2]) ∧ Holds E s (L) w' := by
  unfold assayerref16_State_Value_f at hm
  go_enter Tryd.func90, Tryd.ntmps90
  refine wp_seq ?_
  refine wp_region_lit ?_
  apply seq_op (V := .int .i64 0) rfl
  · exact fun _ h => O_as rfl rfl h
  (try simp only [PT])
  apply seq_op (V := .bool false) rfl
  · exact fun _ h => O_as rfl rfl h
  (try simp only [PT])
  refine list_end ?_
  refine then_norm ?_
  refine wp_seq ?_
  refine wp_seq ?_
  refine wp_region_lit ?_
  apply seq_op (V := .pointer (some ⟨b_p0, o_p0, none⟩)) rfl
  · exact fun _ h => O_mv rfl rfl h
  (try simp only [PT])
  apply seq_op (V := .pointer (some ⟨b_p0, o_p0, none⟩)) rfl
  · exact fun _ h => O_nil rfl rfl h
  (try simp only [PT])
  apply seq_op (V := .pointer (some ⟨b_p0, o_p0, none⟩)) rfl
  · exact fun _ h => O_fld rfl Tryd.underlying143 rfl (Tryd.sizeOf71 _) rfl h
  (try simp only [PT])
  apply seq_op (V := .slice A_p0_l a0.l.length c_p0_l) rfl
  · exact fun _ h => G_s1 _ _ rfl (Tryd.isAgg71 _) rfl H hC_p0 0 rfl rfl h
  (try simp only [PT])
  apply seq_op (V := .int .i64 (a0.l.length : Int)) rfl
  · exact fun _ h => O_len rfl Tryd.underlying71 rfl h
  (try simp only [PT])
  apply seq_op (V := .int .i64 (IntKind.i64.wrap ((a0.l.length : Int) - 1))) rfl
  · exact fun _ h => O_bin rfl rfl rfl eqg_int r_sub h
  (try simp only [PT])
  apply seq_op (V := .int .i64 (IntKind.i64.wrap ((a0.l.length : Int) - 1))) rfl
  · exact fun _ h => O_as rfl rfl h
  (try simp only [PT])
  refine list_end ?_
  refine then_norm ?_
  refine wp_block ?_
  obtain ⟨R2, hq2, hm⟩ := bs hm
  refine wp_loopN [none, none, none, none, some 4, some 5, some 6, none, none, none, none, none, none, some 13, some 14, some 15, some 16, some 17, some 18, some 19, some 20, some 21, some 22, some 23, some 24, some 25, some 26, some 27, some 28, some 29, some 30, some 31, some 32, some 33, some 34, some 35, some 36, some 37, some 38, some 39, some 40, some 41, some 42, some 43, some 44, some 45] rfl (by simp) (fun r2 f w => ∃ (y2_6 : Int), f 6 = .int .i64 y2_6 ∧ Kin.inI64 y2_6 ∧ assayerref16_State_Value_l2 a0 a1 r2 y2_6 = some R2 ∧ Holds E s (L) w) ?_ ?_
  · exact ⟨_, (IntKind.i64.wrap ((a0.l.length : Int) - 1)), rfl, (i64_i _), hq2, H⟩
  · clear H
    intro r2 f w hI
    obtain ⟨y2_6, hf6, hr_y2_6, hq2', H⟩ := hI
    clear hq2; have hq2 := hq2'; clear hq2'
    simp only [ovm, mixM]
    simp only [hf6]; clear hf6
    cases r2 with
    | zero => cases hq2
    | succ r2 =>
      rw [assayerref16_State_Value_l2] at hq2
      refine wp_seq ?_
      refine wp_seq ?_
      refine wp_region_lit ?_
      apply seq_op (V := .int .i64 y2_6) rfl
      · exact fun _ h => O_mv rfl rfl h
      (try simp only [PT])
      apply seq_op (V := .bool (decide (y2_6 ≥ 0))) rfl
      · exact fun _ h => O_bin rfl rfl rfl eqg_int r_geq h
      (try simp only [PT])
      refine list_end ?_
      refine then_norm ?_
      refine wp_cond_split rfl (fun hc => ?_) (fun hc => ?_)
      · have hc1 := hc
        clear hc
        replace hq2 := ifT hc1 hq2
        refine wp_skip ?_
        refine then_norm ?_
        refine wp_seq ?_
        refine wp_block ?_
        refine wp_seq ?_
        obtain ⟨u1, gx1, hq2⟩ := bs hq2
        obtain ⟨kk1, gk1, gl1, gd1⟩ := rdI_some gx1
        obtain ⟨be1, oe1, A3e1, c3e1, rfl, hCe1, h0e1, h1e1, h2e1, h3e1⟩ := kOp_el h_p0_l gd1
        refine wp_region_lit ?_
        apply seq_op (V := .pointer (some ⟨b_p0, o_p0, none⟩)) rfl
        · exact fun _ h => O_mv rfl rfl h
        (try simp only [PT])
        apply seq_op (V := .pointer (some ⟨b_p0, o_p0, none⟩)) rfl
        · exact fun _ h => O_nil rfl rfl h
        (try simp only [PT])
        apply seq_op (V := .pointer (some ⟨b_p0, o_p0, none⟩)) rfl
        · exact fun _ h => O_fld rfl Tryd.underlying143 rfl (Tryd.sizeOf71 _) rfl h
        (try simp only [PT])
        apply seq_op (V := .slice (some ⟨be1, oe1, none⟩) a0.l.length c_p0_l) rfl
        · exact fun _ h => G_s1 _ _ rfl (Tryd.isAgg71 _) rfl H hC_p0 0 rfl rfl h
        (try simp only [PT])
        apply seq_op (V := .int .i64 y2_6) rfl
        · exact fun _ h => O_mv rfl rfl h
        (try simp only [PT])
        apply seq_op (V := .pointer (some ⟨be1, oe1 + kk1 * 6, none⟩)) rfl
        · exact fun _ h => O_ix rfl Tryd.underlying71 (Tryd.sizeOf108 _) rfl rfl gk1 gl1 h
        (try simp only [PT])
        apply seq_op (V := .pointer (some ⟨be1, oe1 + kk1 * 6, none⟩)) rfl
        · exact fun _ h => O_fld rfl Tryd.underlying108 rfl (Tryd.sizeOf3 _) rfl h
        (try simp only [PT])
        apply seq_op (V := .int .i64 u1.kind) rfl
        · exact fun _ h => G_s1 _ _ rfl (Tryd.isAgg3 _) rfl H hCe1 0 rfl rfl h
        (try simp only [PT])
        apply seq_op (V := .bool (u1.kind == 3)) rfl
        · exact fun _ h => O_bin rfl rfl rfl eqg_int r_eql h
        (try simp only [PT])
        apply seq_op (V := .bool (u1.kind == 3)) rfl
        · exact fun _ h => O_mv rfl rfl h
        (try simp only [PT])
        refine seq_opg (c := (u1.kind == 3)) (V := .pointer (some ⟨b_p0, o_p0, none⟩)) (by first | exact wanted_t rfl rfl rfl | exact wanted_vt rfl rfl rfl) ?_ ?_
        · intro hc Φ hΦ; refine O_mv rfl rfl ?_; exact hΦ
        (try simp only [PT])
        refine seq_opg (c := (u1.kind == 3)) (V := .pointer (some ⟨b_p0, o_p0, none⟩)) (by first | exact wanted_t rfl rfl rfl | exact wanted_vt rfl rfl rfl) ?_ ?_
        · intro hc Φ hΦ; (repeat (first | rw [vg_of hc] | rw [vg_of (and_l hc)] | rw [vg_of (and_l (and_l hc))] | rw [vg_of (and_l (and_l (and_l hc)))] | rw [vg_and hc])); refine O_nil rfl rfl ?_; exact hΦ
        (try simp only [PT])
        refine seq_opg (c := (u1.kind == 3)) (V := .pointer (some ⟨b_p0, o_p0, none⟩)) (by first | exact wanted_t rfl rfl rfl | exact wanted_vt rfl rfl rfl) ?_ ?_
        · intro hc Φ hΦ; (repeat (first | rw [vg_of hc] | rw [vg_of (and_l hc)] | rw [vg_of (and_l (and_l hc))] | rw [vg_of (and_l (and_l (and_l hc)))] | rw [vg_and hc])); refine O_fld rfl Tryd.underlying143 rfl (Tryd.sizeOf71 _) rfl ?_; exact hΦ
        (try simp only [PT])
        refine seq_opg (c := (u1.kind == 3)) (V := .slice (some ⟨be1, oe1, none⟩) a0.l.length c_p0_l) (by first | exact wanted_t rfl rfl rfl | exact wanted_vt rfl rfl rfl) ?_ ?_
        · intro hc Φ hΦ; (repeat (first | rw [vg_of hc] | rw [vg_of (and_l hc)] | rw [vg_of (and_l (and_l hc))] | rw [vg_of (and_l (and_l (and_l hc)))] | rw [vg_and hc])); refine G_s1 _ _ rfl (Tryd.isAgg71 _) rfl H hC_p0 0 rfl rfl ?_; exact hΦ
        (try simp only [PT])
        refine seq_opg (c := (u1.kind == 3)) (V := .int .i64 y2_6) (by first | exact wanted_t rfl rfl rfl | exact wanted_vt rfl rfl rfl) ?_ ?_
        · intro hc Φ hΦ; refine O_mv rfl rfl ?_; exact hΦ
        (try simp only [PT])
        refine seq_opg (c := (u1.kind == 3)) (V := .pointer (some ⟨be1, oe1 + kk1 * 6, none⟩)) (by first | exact wanted_t rfl rfl rfl | exact wanted_vt rfl rfl rfl) ?_ ?_
        · intro hc Φ hΦ; (repeat (first | rw [vg_of hc] | rw [vg_of (and_l hc)] | rw [vg_of (and_l (and_l hc))] | rw [vg_of (and_l (and_l (and_l hc)))] | rw [vg_and hc])); refine O_ix rfl Tryd.underlying71 (Tryd.sizeOf108 _) rfl rfl gk1 gl1 ?_; exact hΦ
        (try simp only [PT])
        refine seq_opg (c := (u1.kind == 3)) (V := .pointer (some ⟨be1, oe1 + kk1 * 6 + 1, none⟩)) (by first | exact wanted_t rfl rfl rfl | exact wanted_vt rfl rfl rfl) ?_ ?_
        · intro hc Φ hΦ; (repeat (first | rw [vg_of hc] | rw [vg_of (and_l hc)] | rw [vg_of (and_l (and_l hc))] | rw [vg_of (and_l (and_l (and_l hc)))] | rw [vg_and hc])); refine O_fld rfl Tryd.underlying108 rfl (Tryd.sizeOf9 _) rfl ?_; exact hΦ
        (try simp only [PT])
        refine seq_opg (c := (u1.kind == 3)) (V := .string u1.key) (by first | exact wanted_t rfl rfl rfl | exact wanted_vt rfl rfl rfl) ?_ ?_
        · intro hc Φ hΦ; (repeat (first | rw [vg_of hc] | rw [vg_of (and_l hc)] | rw [vg_of (and_l (and_l hc))] | rw [vg_of (and_l (and_l (and_l hc)))] | rw [vg_and hc])); refine G_s1 _ _ rfl (Tryd.isAgg9 _) rfl H hCe1 1 rfl rfl ?_; exact hΦ
        (try simp only [PT])
        refine seq_opg (c := (u1.kind == 3)) (V := .string a1) (by first | exact wanted_t rfl rfl rfl | exact wanted_vt rfl rfl rfl) ?_ ?_
        · intro hc Φ hΦ; refine O_mv rfl rfl ?_; exact hΦ
        (try simp only [PT])
        refine seq_opg (c := (u1.kind == 3)) (V := .bool (u1.key.toList == a1.toList)) (by first | exact wanted_t rfl rfl rfl | exact wanted_vt rfl rfl rfl) ?_ ?_
        · intro hc Φ hΦ; (repeat (first | rw [vg_of hc] | rw [vg_of (and_l hc)] | rw [vg_of (and_l (and_l hc))] | rw [vg_of (and_l (and_l (and_l hc)))] | rw [vg_and hc])); refine O_bin rfl rfl rfl eqg_str r_seq ?_; exact hΦ
        (try simp only [PT])
        apply seq_op (V := .bool ((u1.kind == 3) && (u1.key.toList == a1.toList))) rfl
        · exact fun _ h => G_and _ _ _ rfl rfl rfl rfl h
        (try simp only [PT])
        refine list_end ?_
        refine then_norm ?_
        refine wp_cond_split rfl (fun hc => ?_) (fun hc => ?_)
        · have hc2 := hc
          clear hc
          replace hq2 := ifT hc2 hq2
          refine wp_seq ?_
          refine wp_region_lit ?_
          apply seq_op (V := .pointer (some ⟨b_p0, o_p0, none⟩)) rfl
          · exact fun _ h => O_mv rfl rfl h
          (try simp only [PT])
          apply seq_op (V := .pointer (some ⟨b_p0, o_p0, none⟩)) rfl
          · exact fun _ h => O_nil rfl rfl h
          (try simp only [PT])
          apply seq_op (V := .pointer (some ⟨b_p0, o_p0, none⟩)) rfl
          · exact fun _ h => O_fld rfl Tryd.underlying143 rfl (Tryd.sizeOf71 _) rfl h
          (try simp only [PT])
          apply seq_op (V := .slice (some ⟨be1, oe1, none⟩) a0.l.length c_p0_l) rfl
          · exact fun _ h => G_s1 _ _ rfl (Tryd.isAgg71 _) rfl H hC_p0 0 rfl rfl h
          (try simp only [PT])
          apply seq_op (V := .int .i64 y2_6) rfl
          · exact fun _ h => O_mv rfl rfl h
          (try simp only [PT])
          apply seq_op (V := .pointer (some ⟨be1, oe1 + kk1 * 6, none⟩)) rfl
          · exact fun _ h => O_ix rfl Tryd.underlying71 (Tryd.sizeOf108 _) rfl rfl gk1 gl1 h
          (try simp only [PT])
          apply seq_op (V := .pointer (some ⟨be1, oe1 + kk1 * 6 + 2, none⟩)) rfl
          · exact fun _ h => O_fld rfl Tryd.underlying108 rfl (Tryd.sizeOf3 _) rfl h
          (try simp only [PT])
          apply seq_op (V := .int .i64 u1.value) rfl
          · exact fun _ h => G_s1 _ _ rfl (Tryd.isAgg3 _) rfl H hCe1 2 rfl rfl h
          (try simp only [PT])
          apply seq_op (V := .int .i64 u1.value) rfl
          · exact fun _ h => O_as rfl rfl h
          (try simp only [PT])
          apply seq_op (V := .bool true) rfl
          · exact fun _ h => O_as rfl rfl h
          (try simp only [PT])
          refine list_end ?_
          refine then_norm ?_
          refine wp_ret ?_
          refine block_ret ?_
          refine then_ret ?_
          refine then_ret ?_
          refine block_ret ?_
          refine then_ret ?_
          have hq2 := Option.some.inj hq2
          subst hq2
          (try dsimp only at hm)
          have hm := Option.some.inj hm
          subst hm
          exact ret2 rfl (rv_tmp rfl) (rv_tmp rfl) rfl ⟨rfl, H⟩
        · have hc2 := hc
          clear hc
          replace hq2 := ifF hc2 hq2
          refine wp_skip ?_
          refine block_norm ?_
          refine then_norm ?_
          refine wp_region_lit ?_
          apply seq_op (V := .int .i64 y2_6) rfl
          · exact fun _ h => O_mv rfl rfl h
          (try simp only [PT])
          apply seq_op (V := .int .i64 (IntKind.i64.wrap (y2_6 - 1))) rfl
          · exact fun _ h => O_bin rfl rfl rfl eqg_int r_sub h
          (try simp only [PT])
          apply seq_op (V := .int .i64 (IntKind.i64.wrap (y2_6 - 1))) rfl
          · exact fun _ h => O_as rfl rfl h
          (try simp only [PT])
          refine list_end ?_
          refine then_norm ?_
          exact ⟨⟨⟨rfl, rfl, rfl, rfl, rfl, rfl, rfl, rfl, rfl, rfl, rfl⟩, rfl⟩, r2, Nat.lt_succ_self _, ⟨(IntKind.i64.wrap (y2_6 - 1)), rfl, (i64_i _), hq2, H⟩⟩
      · have hc1 := hc
        clear hc
        replace hq2 := ifF hc1 hq2
        refine wp_exit ?_
        refine then_exit ?_
        refine then_exit ?_
        have hq2 := Option.some.inj hq2
        subst hq2
        (try dsimp only at hm)
        refine block_exit ?_
        refine then_norm ?_
        refine wp_seq ?_
        refine wp_region_lit ?_
        apply seq_op (V := .int .i64 0) rfl
        · exact fun _ h => O_as rfl rfl h
        (try simp only [PT])
        apply seq_op (V := .bool false) rfl
        · exact fun _ h => O_as rfl rfl h
        (try simp only [PT])
        refine list_end ?_
        refine then_norm ?_
        refine wp_ret ?_
        have hm := Option.some.inj hm
        subst hm
        exact ret2 rfl (rv_tmp rfl) (rv_tmp rfl) rfl ⟨rfl, H⟩
def assayerref16_State_right_f (fuel : Nat) (a0 : St16) (a1 : Op') : Option Bool := if (!a1.has) = true then (some true) else (if (a1.kind == 2) = true then ((assayerref16_State_List_f a0 a1.key).bind fun u1 => (assayerref02_SameList_f a1.list u1).bind fun u2 => some u2) else (if (a1.kind == 4) = true then ((assayerref16_State_Value_f fuel a0 a1.key).bind fun u3 => some ((!(u3.2 == a1.isNil)) && (a1.isNil || (u3.1 == a1.value)))) else (some true)))

set_option maxHeartbeats 4000000 in
theorem assayerref16_State_right_w {E : World} {s : SH} {L : List HP} {w : World} {fuel : Nat} {a0 : St16} {a1 : Op'} {A_p0_l : Option Addr} {c_p0_l : Nat} (h_p0_l : kOp.Sl s (.slice A_p0_l a0.l.length c_p0_l) a0.l) {b_p0 o_p0 : Nat} (hC_p0 : Cells s ⟨b_p0, o_p0, none⟩ [.slice A_p0_l a0.l.length c_p0_l]) {A_p1_list : Option Addr} {c_p1_list : Nat} (h_p1_list : kI.Sl s (.slice A_p1_list a1.list.length c_p1_list) a1.list) {R : Bool} (hm : assayerref16_State_right_f fuel a0 a1 = some R) (H : Holds E s (L) w) :
    Calls Tryd.prog 96 #[.pointer (some ⟨b_p0, o_p0, none⟩), .agg #[.int .i64 a1.kind, .string a1.key, .int .i64 a1.value, .slice A_p1_list a1.list.length c_p1_list, .bool a1.has, .bool a1.isNil]] w fun e w' => e = .returned (.bool R) ∧ Holds E s (L) w' := by
  unfold assayerref16_State_right_f at hm
  go_enter Tryd.func96, Tryd.ntmps96
  refine wp_seq ?_
  refine wp_region_lit ?_
  refine OpG.list rfl ?_; refine B_x 108 _ rfl (v := .agg #[.int .i64 a1.kind, .string a1.key, .int .i64 a1.value, .slice A_p1_list a1.list.length c_p1_list, .bool a1.has, .bool a1.isNil]) rfl H ?_; clear H; intro b3 w1 H; (try simp only [Value.cells] at H)
  (try simp only [PT])
  apply seq_op (V := .bool false) rfl
  · exact fun _ h => O_as rfl rfl h
  (try simp only [PT])
  refine list_end ?_
  refine then_norm ?_
  refine wp_seq ?_
  refine wp_block ?_
  refine wp_seq ?_
  refine wp_region_lit ?_
  apply seq_op (V := .pointer (some ⟨b3, 4, none⟩)) rfl
  · exact fun _ h => O_fld rfl Tryd.underlying108 rfl (Tryd.sizeOf4 _) rfl h
  (try simp only [PT])
  apply seq_op (V := .bool a1.has) rfl
  · exact fun _ h => L_1 0 _ _ rfl (Tryd.isAgg4 _) rfl H rfl rfl h
  (try simp only [PT])
  apply seq_op (V := .bool (!a1.has)) rfl
  · exact fun _ h => O_not rfl rfl h
  (try simp only [PT])
  apply seq_op (V := .bool (!a1.has)) rfl
  · exact fun _ h => O_as rfl rfl h
  (try simp only [PT])
  refine list_end ?_
  refine then_norm ?_
  refine wp_cond_split rfl (fun hc => ?_) (fun hc => ?_)
  · have hc1 := hc
    clear hc
    replace hm := ifT hc1 hm
    refine wp_skip ?_
    refine block_norm ?_
    refine then_norm ?_
    refine wp_seq ?_
    refine wp_region_lit ?_
    apply seq_op (V := .bool true) rfl
    · exact fun _ h => O_as rfl rfl h
    (try simp only [PT])
    refine list_end ?_
    refine then_norm ?_
    refine wp_ret ?_
    have hm := Option.some.inj hm
    subst hm
    replace H := H.dropAt 0 rfl; simp only [List.eraseIdx_cons_succ, List.eraseIdx_cons_zero] at H
    exact ret1 rfl (rv_tmp rfl) rfl ⟨rfl, H⟩
  · have hc1 := hc
    clear hc
    replace hm := ifF hc1 hm
    refine wp_seq ?_
    refine wp_region_lit ?_
    apply seq_op (V := .pointer (some ⟨b3, 0, none⟩)) rfl
    · exact fun _ h => O_fld rfl Tryd.underlying108 rfl (Tryd.sizeOf3 _) rfl h
    (try simp only [PT])
    apply seq_op (V := .int .i64 a1.kind) rfl
    · exact fun _ h => L_1 0 _ _ rfl (Tryd.isAgg3 _) rfl H rfl rfl h
    (try simp only [PT])
    apply seq_op (V := .bool (a1.kind == 2)) rfl
    · exact fun _ h => O_bin rfl rfl rfl eqg_int r_eql h
    (try simp only [PT])
    apply seq_op (V := .bool (a1.kind == 2)) rfl
    · exact fun _ h => O_as rfl rfl h
    (try simp only [PT])
    refine list_end ?_
    refine then_norm ?_
    refine wp_cond_split rfl (fun hc => ?_) (fun hc => ?_)
    · have hc2 := hc
      clear hc
      replace hm := ifT hc2 hm
      refine wp_seq ?_
      obtain ⟨u1, gx1, hm⟩ := bs hm
      obtain ⟨u2, gx2, hm⟩ := bs hm
      refine wp_draw_C (k := 7) (sz := 47) [5, 6] [.pointer (some ⟨b3, 3, none⟩), .slice A_p1_list a1.list.length c_p1_list, .pointer (some ⟨b_p0, o_p0, none⟩), .pointer (some ⟨b3, 1, none⟩), .string a1.key, undef, undef] [pt b3 (.cells #[.int .i64 a1.kind, .string a1.key, .int .i64 a1.value, .slice A_p1_list a1.list.length c_p1_list, .bool a1.has, .bool a1.isNil] 108 (0, 0))] [fun w x => ∃ (sc : SH) (Ar10 : Option Addr) (cr10 : Nat), Sub s sc ∧ kI.Sl sc (.slice Ar10 u1.length cr10) u1 ∧ x 5 = .slice Ar10 u1.length cr10 ∧ Holds E sc (pt b3 (.cells #[.int .i64 a1.kind, .string a1.key, .int .i64 a1.value, .slice A_p1_list a1.list.length c_p1_list, .bool a1.has, .bool a1.isNil] 108 (0, 0)) :: L) w, fun w x => ∃ (sc : SH) (Ar10 : Option Addr) (cr10 : Nat), Sub s sc ∧ kI.Sl sc (.slice Ar10 u1.length cr10) u1 ∧ x 5 = .slice Ar10 u1.length cr10 ∧ x 6 = .bool u2 ∧ Holds E sc (pt b3 (.cells #[.int .i64 a1.kind, .string a1.key, .int .i64 a1.value, .slice A_p1_list a1.list.length c_p1_list, .bool a1.has, .bool a1.isNil] 108 (0, 0)) :: L) w] mixed (by simp) rfl (by kernel_rfl) (by kernel_rfl) (by kernel_rfl) (by simp) rfl H (by simp only [List.take_succ_cons, List.take_zero]; exact rfl) (by simp only [List.drop_succ_cons, List.drop_zero]; exact rfl)
        (fun x => by simp only [ov, Act.put, List.setIfInBounds_toArray, List.set_cons_succ, List.set_cons_zero, Nat.zero_add, Nat.reduceAdd]; exact rfl) ?_ ?_ ?_ ?_
      · refine ⟨?_, ?_, ?_, trivial⟩
        · intro w x hS; have H : Holds E s (pt b3 (.cells #[.int .i64 a1.kind, .string a1.key, .int .i64 a1.value, .slice A_p1_list a1.list.length c_p1_list, .bool a1.has, .bool a1.isNil] 108 (0, 0)) :: L) w := hS; exact ⟨_, _, Sub.refl _, H⟩
        · intro w x hS; obtain ⟨sc, Ar10, cr10, hsc, hf1, e5, H⟩ := hS; exact ⟨_, _, hsc, H⟩
        · intro w x hS; obtain ⟨sc, Ar10, cr10, hsc, hf1, e5, e6, H⟩ := hS; exact ⟨_, _, hsc, H⟩
      · refine ⟨?_, ?_, ?_, ?_, ?_, ?_, ?_, trivial⟩
        · refine .inr ?_; intro s' R w' x Φ hs H hx hΦ; refine wantG rfl ?_; refine O_fld rfl Tryd.underlying108 rfl (Tryd.sizeOf27 _) rfl ?_; exact hΦ
        · refine .inr ?_; intro s' R w' x Φ hs H hx hΦ; have e0 : x 0 = .pointer (some ⟨b3, 3, none⟩) := hx 0 (by decide) (by decide); simp only [e0]; refine wantG rfl ?_; refine L_1 0 _ _ rfl (Tryd.isAgg27 _) rfl H rfl rfl ?_; exact hΦ
        · refine .inr ?_; intro s' R w' x Φ hs H hx hΦ; refine wantG rfl ?_; refine O_mv rfl rfl ?_; exact hΦ
        · refine .inr ?_; intro s' R w' x Φ hs H hx hΦ; refine wantG rfl ?_; refine O_fld rfl Tryd.underlying108 rfl (Tryd.sizeOf9 _) rfl ?_; exact hΦ
        · refine .inr ?_; intro s' R w' x Φ hs H hx hΦ; have e3 : x 3 = .pointer (some ⟨b3, 1, none⟩) := hx 3 (by decide) (by decide); simp only [e3]; refine wantG rfl ?_; refine L_1 0 _ _ rfl (Tryd.isAgg9 _) rfl H rfl rfl ?_; exact hΦ
        · exact .inl (by decide)
        · exact .inl (by decide)
      · refine ⟨?_, ?_, trivial⟩
        · intro o ho; obtain rfl := Option.some.inj ho; intro w' x Φ hS hx hΦ
          have H : Holds E s (pt b3 (.cells #[.int .i64 a1.kind, .string a1.key, .int .i64 a1.value, .slice A_p1_list a1.list.length c_p1_list, .bool a1.has, .bool a1.isNil] 108 (0, 0)) :: L) w' := hS; clear hS
          have hsc := Sub.refl s
          have e2 : x 2 = .pointer (some ⟨b_p0, o_p0, none⟩) := hx 2 (by decide) (by decide)
          have e4 : x 4 = .string a1.key := hx 4 (by decide) (by decide)
          simp only [e2, e4]
          refine wantG rfl ?_
          refine O_call2 rfl Tryd.func92 rfl rfl rfl rfl ?_; refine (assayerref16_State_List_w (a0 := a0) (hC_p0 := hC_p0) (h_p0_l := h_p0_l) (a1 := a1.key) (hm := gx1) (H := H)).mono ?_
          clear H
          rintro e w1 ⟨Ar10, cr10, nr10, rfl, H⟩; refine ⟨_, rfl, ?_⟩
          obtain rfl := osl_len 0 H rfl
          skip
          obtain ⟨s1, hs', H, hf1⟩ := Kin.Osl.fr H; replace hf1 := hf1.unsh hs'
          replace h_p0_l := h_p0_l.mono hs'
          replace hC_p0 := hC_p0.mono hs'
          replace h_p1_list := h_p1_list.mono hs'
          replace hsc := hsc.trans hs'
          exact hΦ _ _ ⟨s1, Ar10, cr10, hsc, hf1, updV_same, H⟩
        · intro o ho; obtain rfl := Option.some.inj ho; intro w' x Φ hS hx hΦ
          obtain ⟨sc, Ar10, cr10, hsc, hf1, e5, H⟩ := hS
          replace h_p0_l := h_p0_l.mono hsc
          replace hC_p0 := hC_p0.mono hsc
          replace h_p1_list := h_p1_list.mono hsc
          have e1 : x 1 = .slice A_p1_list a1.list.length c_p1_list := hx 1 (by decide) (by decide)
          simp only [e1, e5]
          refine wantG rfl ?_
          refine O_call2 rfl Tryd.func91 rfl rfl rfl rfl ?_; refine (assayerref02_SameList_w (a0 := a1.list) (h_p0 := h_p1_list) (a1 := u1) (h_p1 := hf1) (hm := gx2) (H := H)).mono ?_
          clear H
          rintro e w1 ⟨rfl, H⟩; refine ⟨_, rfl, ?_⟩
          exact hΦ _ _ ⟨sc, Ar10, cr10, hsc, hf1, (updV_ne (by decide)).trans e5, updV_same, H⟩
      · clear H
        intro w' x hS hx
        obtain ⟨sc, Ar10, cr10, hsc, hf1, e5, e6, H⟩ := hS
        replace h_p0_l := h_p0_l.mono hsc
        replace hC_p0 := hC_p0.mono hsc
        replace h_p1_list := h_p1_list.mono hsc
        have hS := hsc
        have e0 : x 0 = .pointer (some ⟨b3, 3, none⟩) := hx 0 (by decide) (by decide)
        have e1 : x 1 = .slice A_p1_list a1.list.length c_p1_list := hx 1 (by decide) (by decide)
        have e2 : x 2 = .pointer (some ⟨b_p0, o_p0, none⟩) := hx 2 (by decide) (by decide)
        have e3 : x 3 = .pointer (some ⟨b3, 1, none⟩) := hx 3 (by decide) (by decide)
        have e4 : x 4 = .string a1.key := hx 4 (by decide) (by decide)
        simp only [e0, e1, e2, e3, e4, e5, e6]
        clear hx
        apply seq_op (V := .bool u2) rfl
        · exact fun _ h => O_as rfl rfl h
        (try simp only [PT])
        refine list_end ?_
        refine then_norm ?_
        refine wp_ret ?_
        refine block_ret ?_
        refine then_ret ?_
        have hm := Option.some.inj hm
        subst hm
        replace H := H.dropAt 0 rfl; simp only [List.eraseIdx_cons_succ, List.eraseIdx_cons_zero] at H
        replace H := H.forget hS
        exact ret1 rfl (rv_tmp rfl) rfl ⟨rfl, H⟩
    · have hc2 := hc
      clear hc
      replace hm := ifF hc2 hm
      refine wp_seq ?_
      refine wp_region_lit ?_
      apply seq_op (V := .pointer (some ⟨b3, 0, none⟩)) rfl
      · exact fun _ h => O_fld rfl Tryd.underlying108 rfl (Tryd.sizeOf3 _) rfl h
      (try simp only [PT])
      apply seq_op (V := .int .i64 a1.kind) rfl
      · exact fun _ h => L_1 0 _ _ rfl (Tryd.isAgg3 _) rfl H rfl rfl h
      (try simp only [PT])
      apply seq_op (V := .bool (a1.kind == 4)) rfl
      · exact fun _ h => O_bin rfl rfl rfl eqg_int r_eql h
      (try simp only [PT])
      apply seq_op (V := .bool (a1.kind == 4)) rfl
      · exact fun _ h => O_as rfl rfl h
      (try simp only [PT])
      refine list_end ?_
      refine then_norm ?_
      refine wp_cond_split rfl (fun hc => ?_) (fun hc => ?_)
      · have hc3 := hc
        clear hc
        replace hm := ifT hc3 hm
        refine wp_seq ?_
        obtain ⟨u3, gx3, hm⟩ := bs hm
        refine wp_region_lit ?_
        apply seq_op (V := .pointer (some ⟨b_p0, o_p0, none⟩)) rfl
        · exact fun _ h => O_mv rfl rfl h
        (try simp only [PT])
        apply seq_op (V := .pointer (some ⟨b3, 1, none⟩)) rfl
        · exact fun _ h => O_fld rfl Tryd.underlying108 rfl (Tryd.sizeOf9 _) rfl h
        (try simp only [PT])
        apply seq_op (V := .string a1.key) rfl
        · exact fun _ h => L_1 0 _ _ rfl (Tryd.isAgg9 _) rfl H rfl rfl h
        (try simp only [PT])
        refine seq_call rfl (fun Φ hΦ => by refine O_call2 rfl Tryd.func90 rfl rfl rfl rfl hΦ) (assayerref16_State_Value_w (fuel := fuel) (a0 := a0) (hC_p0 := hC_p0) (h_p0_l := h_p0_l) (a1 := a1.key) (hm := gx3) (H := H)) ?_
        clear H
        rintro e w1 ⟨rfl, H⟩; refine ⟨_, rfl, ?_⟩
        (try simp only [PT])
        apply seq_op (V := .tuple #[.int .i64 u3.1, .bool u3.2]) rfl
        · exact fun _ h => O_mv rfl rfl h
        (try simp only [PT])
        apply seq_op (V := .int .i64 u3.1) rfl
        · exact fun _ h => O_ext rfl rfl rfl h
        (try simp only [PT])
        apply seq_op (V := .bool u3.2) rfl
        · exact fun _ h => O_ext rfl rfl rfl h
        (try simp only [PT])
        apply seq_op (V := .int .i64 u3.1) rfl
        · exact fun _ h => O_as rfl rfl h
        (try simp only [PT])
        apply seq_op (V := .bool u3.2) rfl
        · exact fun _ h => O_as rfl rfl h
        (try simp only [PT])
        refine list_end ?_
        refine then_norm ?_
        refine wp_seq ?_
        refine wp_region_lit ?_
        apply seq_op (V := .bool u3.2) rfl
        · exact fun _ h => O_mv rfl rfl h
        (try simp only [PT])
        apply seq_op (V := .pointer (some ⟨b3, 5, none⟩)) rfl
        · exact fun _ h => O_fld rfl Tryd.underlying108 rfl (Tryd.sizeOf4 _) rfl h
        (try simp only [PT])
        apply seq_op (V := .bool a1.isNil) rfl
        · exact fun _ h => L_1 0 _ _ rfl (Tryd.isAgg4 _) rfl H rfl rfl h
        (try simp only [PT])
        apply seq_op (V := .bool (!(u3.2 == a1.isNil))) rfl
        · exact fun _ h => O_bin rfl rfl rfl eqg_bool (r_bne Tryd.underlying4) h
        (try simp only [PT])
        apply seq_op (V := .bool (!(u3.2 == a1.isNil))) rfl
        · exact fun _ h => O_mv rfl rfl h
        (try simp only [PT])
        refine seq_opg (c := (!(u3.2 == a1.isNil))) (V := .pointer (some ⟨b3, 5, none⟩)) (by first | exact wanted_t rfl rfl rfl | exact wanted_vt rfl rfl rfl) ?_ ?_
        · intro hc Φ hΦ; refine O_fld rfl Tryd.underlying108 rfl (Tryd.sizeOf4 _) rfl ?_; exact hΦ
        (try simp only [PT])
        refine seq_opg (c := (!(u3.2 == a1.isNil))) (V := .bool a1.isNil) (by first | exact wanted_t rfl rfl rfl | exact wanted_vt rfl rfl rfl) ?_ ?_
        · intro hc Φ hΦ; (repeat (first | rw [vg_of hc] | rw [vg_of (and_l hc)] | rw [vg_of (and_l (and_l hc))] | rw [vg_of (and_l (and_l (and_l hc)))] | rw [vg_and hc])); refine L_1 0 _ _ rfl (Tryd.isAgg4 _) rfl H rfl rfl ?_; exact hΦ
        (try simp only [PT])
        refine seq_opg (c := (!(u3.2 == a1.isNil))) (V := .bool a1.isNil) (by first | exact wanted_t rfl rfl rfl | exact wanted_vt rfl rfl rfl) ?_ ?_
        · intro hc Φ hΦ; (repeat (first | rw [vg_of hc] | rw [vg_of (and_l hc)] | rw [vg_of (and_l (and_l hc))] | rw [vg_of (and_l (and_l (and_l hc)))] | rw [vg_and hc])); refine O_mv rfl rfl ?_; exact hΦ
        (try simp only [PT])
        refine seq_opg (c := ((!(u3.2 == a1.isNil)) && !a1.isNil)) (V := .int .i64 u3.1) (by first | exact wanted_f rfl rfl rfl | exact wanted_vf rfl rfl rfl) ?_ ?_
        · intro hc Φ hΦ; refine O_mv rfl rfl ?_; exact hΦ
        (try simp only [PT])
        refine seq_opg (c := ((!(u3.2 == a1.isNil)) && !a1.isNil)) (V := .pointer (some ⟨b3, 2, none⟩)) (by first | exact wanted_f rfl rfl rfl | exact wanted_vf rfl rfl rfl) ?_ ?_
        · intro hc Φ hΦ; refine O_fld rfl Tryd.underlying108 rfl (Tryd.sizeOf3 _) rfl ?_; exact hΦ
        (try simp only [PT])
        refine seq_opg (c := ((!(u3.2 == a1.isNil)) && !a1.isNil)) (V := .int .i64 a1.value) (by first | exact wanted_f rfl rfl rfl | exact wanted_vf rfl rfl rfl) ?_ ?_
        · intro hc Φ hΦ; (repeat (first | rw [vg_of hc] | rw [vg_of (and_l hc)] | rw [vg_of (and_l (and_l hc))] | rw [vg_of (and_l (and_l (and_l hc)))] | rw [vg_and hc])); refine L_1 0 _ _ rfl (Tryd.isAgg3 _) rfl H rfl rfl ?_; exact hΦ
        (try simp only [PT])
        refine seq_opg (c := ((!(u3.2 == a1.isNil)) && !a1.isNil)) (V := .bool (u3.1 == a1.value)) (by first | exact wanted_f rfl rfl rfl | exact wanted_vf rfl rfl rfl) ?_ ?_
        · intro hc Φ hΦ; (repeat (first | rw [vg_of hc] | rw [vg_of (and_l hc)] | rw [vg_of (and_l (and_l hc))] | rw [vg_of (and_l (and_l (and_l hc)))] | rw [vg_and hc])); refine O_bin rfl rfl rfl eqg_int r_eql ?_; exact hΦ
        (try simp only [PT])
        refine seq_opg (c := (!(u3.2 == a1.isNil))) (V := .bool (a1.isNil || (u3.1 == a1.value))) (by first | exact wanted_t rfl rfl rfl | exact wanted_vt rfl rfl rfl) ?_ ?_
        · intro hc Φ hΦ; (repeat (first | rw [vg_of hc] | rw [vg_of (and_l hc)] | rw [vg_of (and_l (and_l hc))] | rw [vg_of (and_l (and_l (and_l hc)))] | rw [vg_and hc])); refine G_or _ _ _ rfl rfl rfl rfl ?_; exact hΦ
        (try simp only [PT])
        apply seq_op (V := .bool ((!(u3.2 == a1.isNil)) && (a1.isNil || (u3.1 == a1.value)))) rfl
        · exact fun _ h => G_and _ _ _ rfl rfl rfl rfl h
        (try simp only [PT])
        apply seq_op (V := .bool ((!(u3.2 == a1.isNil)) && (a1.isNil || (u3.1 == a1.value)))) rfl
        · exact fun _ h => O_as rfl rfl h
        (try simp only [PT])
        refine list_end ?_
        refine then_norm ?_
        refine wp_ret ?_
        refine block_ret ?_
        refine then_ret ?_
        have hm := Option.some.inj hm
        subst hm
        replace H := H.dropAt 0 rfl; simp only [List.eraseIdx_cons_succ, List.eraseIdx_cons_zero] at H
        exact ret1 rfl (rv_tmp rfl) rfl ⟨rfl, H⟩
      · have hc3 := hc
        clear hc
        replace hm := ifF hc3 hm
        refine wp_skip ?_
        refine block_norm ?_
        refine then_norm ?_
        refine wp_seq ?_
        refine wp_region_lit ?_
        apply seq_op (V := .bool true) rfl
        · exact fun _ h => O_as rfl rfl h
        (try simp only [PT])
        refine list_end ?_
        refine then_norm ?_
        refine wp_ret ?_
        have hm := Option.some.inj hm
        subst hm
        replace H := H.dropAt 0 rfl; simp only [List.eraseIdx_cons_succ, List.eraseIdx_cons_zero] at H
        exact ret1 rfl (rv_tmp rfl) rfl ⟨rfl, H⟩
def assayerref16_State_Apply_l3 (fuel : Nat) (a2 : Bool) (a0 : St16) : Nat → List Op' → (List Op') → Option (((Bool × St16) ⊕ ((List Op'))))
  | k3, [] , y3_c0_0 => some (.inr y3_c0_0)
  | k3, x3 :: r3, y3_c0_0 => if (!a2) = true then ((assayerref16_State_right_f fuel (⟨y3_c0_0⟩ : St16) x3).bind fun u2 => if (!u2) = true then (some (.inl (false, a0))) else (if ((x3.kind == 1) || (x3.kind == 3)) = true then ((app 64 y3_c0_0 x3).bind fun u3 => assayerref16_State_Apply_l3 fuel a2 a0 (k3 + 1) r3 u3) else (assayerref16_State_Apply_l3 fuel a2 a0 (k3 + 1) r3 y3_c0_0))) else (if ((x3.kind == 1) || (x3.kind == 3)) = true then ((app 64 y3_c0_0 x3).bind fun u2 => assayerref16_State_Apply_l3 fuel a2 a0 (k3 + 1) r3 u2) else (assayerref16_State_Apply_l3 fuel a2 a0 (k3 + 1) r3 y3_c0_0))

def assayerref16_State_Apply_f (fuel : Nat) (a0 : St16) (a1 : List Op') (a2 : Bool) : Option (Bool × St16) := (appL 64 [] a0.l).bind fun u1 => (assayerref16_State_Apply_l3 fuel a2 a0 0 a1 u1).bind fun | .inl z3_r => (some z3_r) | .inr z3_c0_0 => (some (true, (⟨z3_c0_0⟩ : St16)))

set_option maxHeartbeats 4000000 in
theorem assayerref16_State_Apply_w {E : World} {s : SH} {L : List HP} {w : World} {fuel : Nat} {a0 : St16} {a1 : List Op'} {a2 : Bool} {b_p0 : Nat} {A_p0_l : Option Addr} {c_p0_l : Nat} {A_p1 : Option Addr} {c_p1 : Nat} (h_p1 : kOp.Sl s (.slice A_p1 a1.length c_p1) a1) {R : Bool × St16} (hm : assayerref16_State_Apply_f fuel a0 a1 a2 = some R) (H : Holds E s (pt b_p0 (.cells #[.slice A_p0_l a0.l.length c_p0_l] 143 (0, 0)) :: (kOp.sh s).Osl (.slice A_p0_l a0.l.length c_p0_l) a0.l :: L) w) :
    Calls Tryd.prog 43 #[.pointer (some ⟨b_p0, 0, none⟩), .slice A_p1 a1.length c_p1, .bool a2] w fun e w' => ∃ Ao0_l co0_l no0_l, e = .returned (.bool R.1) ∧ Holds E s (pt b_p0 (.cells #[.slice Ao0_l no0_l co0_l] 143 (0, 0)) :: (kOp.sh s).Osl (.slice Ao0_l no0_l co0_l) R.2.l :: L) w' := by
  unfold assayerref16_State_Apply_f at hm
  go_enter Tryd.func43, Tryd.ntmps43
  refine wp_seq ?_
  refine wp_region_lit ?_
  apply seq_op (V := .bool false) rfl
  · exact fun _ h => O_as rfl rfl h
  (try simp only [PT])
  refine list_end ?_
  refine then_norm ?_
  refine wp_seq ?_
  obtain ⟨u1, gx1, hm⟩ := bs hm
  obtain ⟨hroomgx1, egx1⟩ := appL_some gx1
  refine wp_region_lit ?_
  refine OpG.list rfl ?_; refine G_slice0 (d := kOp.sh s) rfl Tryd.underlying71 Tryd.sizeOf108 H ?_; clear H; intro v1 w1 H; obtain ⟨Av1, cv1, rfl, -⟩ := H.len
  (try simp only [PT])
  apply seq_op (V := .pointer (some ⟨b_p0, 0, none⟩)) rfl
  · exact fun _ h => O_mv rfl rfl h
  (try simp only [PT])
  apply seq_op (V := .pointer (some ⟨b_p0, 0, none⟩)) rfl
  · exact fun _ h => O_nil rfl rfl h
  (try simp only [PT])
  apply seq_op (V := .pointer (some ⟨b_p0, 0, none⟩)) rfl
  · exact fun _ h => O_fld rfl Tryd.underlying143 rfl (Tryd.sizeOf71 _) rfl h
  (try simp only [PT])
  apply seq_op (V := .slice A_p0_l a0.l.length c_p0_l) rfl
  · exact fun _ h => L_1 1 _ _ rfl (Tryd.isAgg71 _) rfl H rfl rfl h
  (try simp only [PT])
  replace H := H.front 2 rfl; simp only [List.eraseIdx_cons_succ, List.eraseIdx_cons_zero] at H
  replace H := H.front 1 rfl; simp only [List.eraseIdx_cons_succ, List.eraseIdx_cons_zero] at H
  refine OpG.list rfl ?_; refine G_appendO kOp_at _ _ rfl H rfl rfl hroomgx1 ?_; clear H; intro v2 w1 H; rw [← egx1] at H; obtain ⟨Av2, cv2, rfl, -⟩ := H.len
  (try simp only [PT])
  apply seq_op (V := .agg #[.slice Av2 u1.length cv2]) rfl
  · exact fun _ h => O_bld (cs := [.slice Av2 u1.length cv2]) rfl (by kernel_rfl) h
  (try simp only [PT])
  refine OpG.list rfl ?_; refine B_x 143 _ rfl (v := .agg #[.slice Av2 u1.length cv2]) rfl H ?_; clear H; intro b17 w1 H; (try simp only [Value.cells] at H)
  (try simp only [PT])
  apply seq_op (V := .pointer (some ⟨b17, 0, none⟩)) rfl
  · exact fun _ h => O_as rfl rfl h
  (try simp only [PT])
  refine list_end ?_
  refine then_norm ?_
  refine wp_seq ?_
  refine wp_seq ?_
  refine wp_region_lit ?_
  apply seq_op (V := .slice A_p1 a1.length c_p1) rfl
  · exact fun _ h => O_mv rfl rfl h
  (try simp only [PT])
  apply seq_op (V := .int .i64 (a1.length : Int)) rfl
  · exact fun _ h => O_len rfl Tryd.underlying71 rfl h
  (try simp only [PT])
  apply seq_op (V := .int .i64 0) rfl
  · exact fun _ h => O_mv rfl rfl h
  (try simp only [PT])
  refine list_end ?_
  refine then_norm ?_
  refine wp_block ?_
  obtain ⟨R3, hq3, hm⟩ := bs hm
  have hn3 := Nat.le_trans (len_le (d := kOp) h_p1 (by decide)) (by decide : (140737488355328 : Nat) ≤ 9223372036854775807)
  refine wp_loopF [none, none, none, none, none, none, some 6, none, none, some 9, none, none, none, none, none, none, none, none, none, none, some 20, some 21, some 22, some 23, some 24, some 25, some 26, some 27, some 28, some 29, some 30, some 31, some 32, some 33, some 34, some 35, some 36, some 37, some 38, some 39, some 40, some 41, some 42, some 43, some 44, some 45, some 46, some 47, some 48, some 49, some 50, none, none, none, none, none, none, none] rfl (by simp) (fun f w => ∃ (k3 : Nat) (r3 : List Op') (y3_c0_0 : List Op') (A_y3_c0_0 : Option Addr) (c_y3_c0_0 : Nat), a1.drop k3 = r3 ∧ f 20 = .int .i64 (k3 : Int) ∧ assayerref16_State_Apply_l3 fuel a2 a0 k3 r3 y3_c0_0 = some R3 ∧ Holds E s (pt b17 (.cells #[.slice A_y3_c0_0 y3_c0_0.length c_y3_c0_0] 143 (0, 0)) :: (kOp.sh s).Osl (.slice A_y3_c0_0 y3_c0_0.length c_y3_c0_0) y3_c0_0 :: (kOp.sh s).Osl (.slice A_p0_l a0.l.length c_p0_l) a0.l :: pt b_p0 (.cells #[.slice A_p0_l a0.l.length c_p0_l] 143 (0, 0)) :: L) w) (fun f w => a1.length - (intOf (f 20)).toNat) ?_ ?_
  · exact ⟨0, a1, u1, Av2, cv2, rfl, rfl, hq3, H⟩
  · clear H
    intro f w hI
    obtain ⟨k3, r3, y3_c0_0, A_y3_c0_0, c_y3_c0_0, hd3, hf20, hq3', H⟩ := hI
    clear hq3; have hq3 := hq3'; clear hq3'
    simp only [ovm, mixM]
    simp only [hf20]; clear hf20
    refine wp_seq ?_
    refine wp_region_lit ?_
    apply seq_op (V := .bool (decide ((k3 : Int) < (a1.length : Int)))) rfl
    · exact fun _ h => O_bin rfl rfl rfl eqg_int r_lss h
    (try simp only [PT])
    refine list_end ?_
    refine then_norm ?_
    refine wp_seq ?_
    refine wp_cond_split rfl (fun hc => ?_) (fun hc => ?_)
    · have hc1 := hc
      clear hc
      obtain ⟨x3, r3', rfl, hd3', hd3'', hl3⟩ := rng_t hd3 hc1
      rw [assayerref16_State_Apply_l3] at hq3
      refine wp_skip ?_
      refine then_norm ?_
      refine wp_seq ?_
      refine wp_block ?_
      refine wp_seq ?_
      obtain ⟨be1, oe1, A3e1, c3e1, rfl, hCe1, h0e1, h1e1, h2e1, h3e1⟩ := kOp_el h_p1 hd3'
      refine wp_region_lit ?_
      apply seq_op (V := .pointer (some ⟨be1, oe1 + k3 * 6, none⟩)) rfl
      · exact fun _ h => O_ix rfl Tryd.underlying71 (Tryd.sizeOf108 _) rfl rfl rfl hl3 h
      (try simp only [PT])
      apply seq_op (V := .agg #[.int .i64 x3.kind, .string x3.key, .int .i64 x3.value, .slice A3e1 x3.list.length c3e1, .bool x3.has, .bool x3.isNil]) rfl
      · exact fun _ h => G_sN _ _ rfl (Tryd.isAgg108 _) rfl H hCe1 (Tryd.sizeOf108 _) h
      (try simp only [PT])
      refine OpG.list rfl ?_; refine G_alloc 108 rfl (Tryd.zeroValue108 _) H ?_; clear H; intro b9 w1 H; (try simp only [Value.cells] at H)
      (try simp only [PT])
      refine OpG.list rfl ?_; refine G_setNi 0 (c := [.int .i64 x3.kind, .string x3.key, .int .i64 x3.value, .slice A3e1 x3.list.length c3e1, .bool x3.has, .bool x3.isNil]) _ _ _ rfl (Tryd.sizeOf108 _) rfl rfl (by simp [Value.oneCell']) H rfl rfl ?_; clear H; intro w1 H; simp only [List.set_cons_succ, List.set_cons_zero] at H
      (try simp only [PT])
      refine list_end ?_
      refine then_norm ?_
      refine wp_seq ?_
      refine wp_seq ?_
      rcases Bool.eq_false_or_eq_true (!a2) with hg1 | hg1
      · replace hq3 := ifT hg1 hq3
        obtain ⟨u2, gx2, hq3⟩ := bs hq3
        refine wp_region_lit ?_
        apply seq_op (V := .bool a2) rfl
        · exact fun _ h => O_mv rfl rfl h
        (try simp only [PT])
        apply seq_op (V := .bool (!a2)) rfl
        · exact fun _ h => O_not rfl rfl h
        (try simp only [PT])
        apply seq_op (V := .bool (!a2)) rfl
        · exact fun _ h => O_mv rfl rfl h
        (try simp only [PT])
        refine seq_opw (V := .pointer (some ⟨b17, 0, none⟩)) ((wanted_t rfl rfl rfl).trans hg1) ?_ ?_
        · exact fun _ h => O_mv rfl rfl h
        (try simp only [PT])
        refine seq_opw (V := .agg #[.int .i64 x3.kind, .string x3.key, .int .i64 x3.value, .slice A3e1 x3.list.length c3e1, .bool x3.has, .bool x3.isNil]) ((wanted_t rfl rfl rfl).trans hg1) ?_ ?_
        · exact fun _ h => G_pNi 0 _ _ rfl (Tryd.isAgg108 _) rfl H rfl (Tryd.sizeOf108 _) h
        (try simp only [PT])
        refine seq_opHw (V := .bool u2) H ((wanted_t rfl rfl rfl).trans hg1) ?_ ?_
        · intro Φ hΦ; refine O_call2 rfl Tryd.func96 rfl rfl rfl rfl ?_; obtain ⟨sl0, hsl0, hb0, H, bk0, bg0⟩ := lendAt 1 rfl H; simp only [List.eraseIdx_cons_succ, List.eraseIdx_cons_zero, List.cons_append] at H bk0; obtain ⟨sl1, hsl1, hb1, H, bk1, bg1⟩ := lendOsl 1 rfl hsl0 H; simp only [List.eraseIdx_cons_succ, List.eraseIdx_cons_zero, List.cons_append] at H bk1; refine (assayerref16_State_right_w (fuel := fuel) (a0 := (⟨y3_c0_0⟩ : St16)) (hC_p0 := ((Cells.ofB hb0).mono hsl1)) (h_p0_l := hb1) (a1 := x3) (h_p1_list := (h3e1.mono (hsl0.trans hsl1))) (hm := gx2) (H := H)).mono ?_; rintro e w2 ⟨rfl, H⟩; have H := bk1 H; have H := bk0 H; exact ⟨_, rfl, hΦ _ H⟩
        clear H; intro w1 H
        (try simp only [PT])
        refine seq_opw (V := .bool (!u2)) ((wanted_t rfl rfl rfl).trans hg1) ?_ ?_
        · exact fun _ h => O_not rfl rfl h
        (try simp only [PT])
        apply seq_op (V := .bool (!u2)) rfl
        · exact fun _ h => O_pickT rfl rfl hg1 rfl h
        (try simp only [PT])
        refine list_end ?_
        refine then_norm ?_
        refine wp_cond_split rfl (fun hc => ?_) (fun hc => ?_)
        · have hc2 := hc
          clear hc
          replace hq3 := ifT hc2 hq3
          refine wp_seq ?_
          refine wp_region_lit ?_
          apply seq_op (V := .bool false) rfl
          · exact fun _ h => O_as rfl rfl h
          (try simp only [PT])
          refine list_end ?_
          refine then_norm ?_
          refine wp_ret ?_
          refine then_ret ?_
          refine block_ret ?_
          refine then_ret ?_
          refine then_ret ?_
          refine block_ret ?_
          refine then_ret ?_
          have hq3 := Option.some.inj hq3
          subst hq3
          (try dsimp only at hm)
          have hm := Option.some.inj hm
          subst hm
          replace H := H.front 3 rfl; simp only [List.eraseIdx_cons_succ, List.eraseIdx_cons_zero] at H
          replace H := H.front 4 rfl; simp only [List.eraseIdx_cons_succ, List.eraseIdx_cons_zero] at H
          replace H := H.dropAt 4 rfl; simp only [List.eraseIdx_cons_succ, List.eraseIdx_cons_zero] at H
          replace H := H.dropAt 3 rfl; simp only [List.eraseIdx_cons_succ, List.eraseIdx_cons_zero] at H
          replace H := H.dropAt 2 rfl; simp only [List.eraseIdx_cons_succ, List.eraseIdx_cons_zero] at H
          exact ret1 rfl (rv_tmp rfl) rfl ⟨A_p0_l, c_p0_l, a0.l.length, rfl, H⟩
        · have hc2 := hc
          clear hc
          replace hq3 := ifF hc2 hq3
          refine wp_skip ?_
          refine then_norm ?_
          refine wp_seq ?_
          refine wp_region_lit ?_
          apply seq_op (V := .pointer (some ⟨b9, 0, none⟩)) rfl
          · exact fun _ h => O_fld rfl Tryd.underlying108 rfl (Tryd.sizeOf3 _) rfl h
          (try simp only [PT])
          apply seq_op (V := .int .i64 x3.kind) rfl
          · exact fun _ h => L_1 0 _ _ rfl (Tryd.isAgg3 _) rfl H rfl rfl h
          (try simp only [PT])
          apply seq_op (V := .bool (x3.kind == 1)) rfl
          · exact fun _ h => O_bin rfl rfl rfl eqg_int r_eql h
          (try simp only [PT])
          apply seq_op (V := .bool (x3.kind == 1)) rfl
          · exact fun _ h => O_mv rfl rfl h
          (try simp only [PT])
          refine seq_opg (c := (!(x3.kind == 1))) (V := .pointer (some ⟨b9, 0, none⟩)) (by first | exact wanted_f rfl rfl rfl | exact wanted_vf rfl rfl rfl) ?_ ?_
          · intro hc Φ hΦ; refine O_fld rfl Tryd.underlying108 rfl (Tryd.sizeOf3 _) rfl ?_; exact hΦ
          (try simp only [PT])
          refine seq_opg (c := (!(x3.kind == 1))) (V := .int .i64 x3.kind) (by first | exact wanted_f rfl rfl rfl | exact wanted_vf rfl rfl rfl) ?_ ?_
          · intro hc Φ hΦ; (repeat (first | rw [vg_of hc] | rw [vg_of (and_l hc)] | rw [vg_of (and_l (and_l hc))] | rw [vg_of (and_l (and_l (and_l hc)))] | rw [vg_and hc])); refine L_1 0 _ _ rfl (Tryd.isAgg3 _) rfl H rfl rfl ?_; exact hΦ
          (try simp only [PT])
          refine seq_opg (c := (!(x3.kind == 1))) (V := .bool (x3.kind == 3)) (by first | exact wanted_f rfl rfl rfl | exact wanted_vf rfl rfl rfl) ?_ ?_
          · intro hc Φ hΦ; (repeat (first | rw [vg_of hc] | rw [vg_of (and_l hc)] | rw [vg_of (and_l (and_l hc))] | rw [vg_of (and_l (and_l (and_l hc)))] | rw [vg_and hc])); refine O_bin rfl rfl rfl eqg_int r_eql ?_; exact hΦ
          (try simp only [PT])
          apply seq_op (V := .bool ((x3.kind == 1) || (x3.kind == 3))) rfl
          · exact fun _ h => G_or _ _ _ rfl rfl rfl rfl h
          (try simp only [PT])
          refine list_end ?_
          refine then_norm ?_
          refine wp_cond_split rfl (fun hc => ?_) (fun hc => ?_)
          · have hc3 := hc
            clear hc
            replace hq3 := ifT hc3 hq3
            obtain ⟨u3, gx3, hq3⟩ := bs hq3
            obtain ⟨hroomgx3, egx3⟩ := app_some gx3
            refine wp_draw_C (k := 8) (sz := 58) [6, 7] [.pointer (some ⟨b17, 0, none⟩), .pointer (some ⟨b17, 0, none⟩), .pointer (some ⟨b17, 0, none⟩), .pointer (some ⟨b17, 0, none⟩), .slice A_y3_c0_0 y3_c0_0.length c_y3_c0_0, .agg #[.int .i64 x3.kind, .string x3.key, .int .i64 x3.value, .slice A3e1 x3.list.length c3e1, .bool x3.has, .bool x3.isNil], undef, undef] [pt b9 (.cells #[.int .i64 x3.kind, .string x3.key, .int .i64 x3.value, .slice A3e1 x3.list.length c3e1, .bool x3.has, .bool x3.isNil] 108 (0, 0)), pt b17 (.cells #[.slice A_y3_c0_0 y3_c0_0.length c_y3_c0_0] 143 (0, 0))] [fun w x => ∃ (b46 : Nat), x 6 = .slice (some ⟨b46, 0, none⟩) 1 1 ∧ Holds E s (pt b46 (.cells #[.int .i64 x3.kind, .string x3.key, .int .i64 x3.value, .slice A3e1 x3.list.length c3e1, .bool x3.has, .bool x3.isNil] 108 (0, 0)) :: pt b9 (.cells #[.int .i64 x3.kind, .string x3.key, .int .i64 x3.value, .slice A3e1 x3.list.length c3e1, .bool x3.has, .bool x3.isNil] 108 (0, 0)) :: pt b17 (.cells #[.slice A_y3_c0_0 y3_c0_0.length c_y3_c0_0] 143 (0, 0)) :: (kOp.sh s).Osl (.slice A_y3_c0_0 y3_c0_0.length c_y3_c0_0) y3_c0_0 :: (kOp.sh s).Osl (.slice A_p0_l a0.l.length c_p0_l) a0.l :: pt b_p0 (.cells #[.slice A_p0_l a0.l.length c_p0_l] 143 (0, 0)) :: L) w, fun w x => ∃ (b46 : Nat) (Av3 : Option Addr) (cv3 : Nat), x 6 = .slice (some ⟨b46, 0, none⟩) 1 1 ∧ x 7 = .slice Av3 u3.length cv3 ∧ Holds E s (pt b9 (.cells #[.int .i64 x3.kind, .string x3.key, .int .i64 x3.value, .slice A3e1 x3.list.length c3e1, .bool x3.has, .bool x3.isNil] 108 (0, 0)) :: pt b17 (.cells #[.slice A_y3_c0_0 y3_c0_0.length c_y3_c0_0] 143 (0, 0)) :: (kOp.sh s).Osl (.slice Av3 u3.length cv3) u3 :: (kOp.sh s).Osl (.slice A_p0_l a0.l.length c_p0_l) a0.l :: pt b_p0 (.cells #[.slice A_p0_l a0.l.length c_p0_l] 143 (0, 0)) :: L) w] mixed (by simp) rfl (by kernel_rfl) (by kernel_rfl) (by kernel_rfl) (by simp) rfl H (by simp only [List.take_succ_cons, List.take_zero]; exact rfl) (by simp only [List.drop_succ_cons, List.drop_zero]; exact rfl)
              (fun x => by simp only [ov, Act.put, List.setIfInBounds_toArray, List.set_cons_succ, List.set_cons_zero, Nat.zero_add, Nat.reduceAdd]; exact rfl) ?_ ?_ ?_ ?_
            · refine ⟨?_, ?_, ?_, trivial⟩
              · intro w x hS; have H : Holds E s (pt b9 (.cells #[.int .i64 x3.kind, .string x3.key, .int .i64 x3.value, .slice A3e1 x3.list.length c3e1, .bool x3.has, .bool x3.isNil] 108 (0, 0)) :: pt b17 (.cells #[.slice A_y3_c0_0 y3_c0_0.length c_y3_c0_0] 143 (0, 0)) :: (kOp.sh s).Osl (.slice A_y3_c0_0 y3_c0_0.length c_y3_c0_0) y3_c0_0 :: (kOp.sh s).Osl (.slice A_p0_l a0.l.length c_p0_l) a0.l :: pt b_p0 (.cells #[.slice A_p0_l a0.l.length c_p0_l] 143 (0, 0)) :: L) w := hS; replace H := H.front 1 rfl; simp only [List.eraseIdx_cons_succ, List.eraseIdx_cons_zero] at H; replace H := H.front 1 rfl; simp only [List.eraseIdx_cons_succ, List.eraseIdx_cons_zero] at H; exact ⟨_, _, Sub.refl _, H⟩
              · intro w x hS; obtain ⟨b46, e6, H⟩ := hS; replace H := H.front 2 rfl; simp only [List.eraseIdx_cons_succ, List.eraseIdx_cons_zero] at H; replace H := H.front 2 rfl; simp only [List.eraseIdx_cons_succ, List.eraseIdx_cons_zero] at H; exact ⟨_, _, Sub.refl _, H⟩
              · intro w x hS; obtain ⟨b46, Av3, cv3, e6, e7, H⟩ := hS; replace H := H.front 1 rfl; simp only [List.eraseIdx_cons_succ, List.eraseIdx_cons_zero] at H; replace H := H.front 1 rfl; simp only [List.eraseIdx_cons_succ, List.eraseIdx_cons_zero] at H; exact ⟨_, _, Sub.refl _, H⟩
            · refine ⟨?_, ?_, ?_, ?_, ?_, ?_, ?_, ?_, trivial⟩
              · refine .inr ?_; intro s' R w' x Φ hs H hx hΦ; refine wantG rfl ?_; refine O_mv rfl rfl ?_; exact hΦ
              · refine .inr ?_; intro s' R w' x Φ hs H hx hΦ; refine wantG rfl ?_; refine O_mv rfl rfl ?_; exact hΦ
              · refine .inr ?_; intro s' R w' x Φ hs H hx hΦ; have e1 : x 1 = .pointer (some ⟨b17, 0, none⟩) := hx 1 (by decide) (by decide); simp only [e1]; refine wantG rfl ?_; refine O_nil rfl rfl ?_; exact hΦ
              · refine .inr ?_; intro s' R w' x Φ hs H hx hΦ; have e2 : x 2 = .pointer (some ⟨b17, 0, none⟩) := hx 2 (by decide) (by decide); simp only [e2]; refine wantG rfl ?_; refine O_fld rfl Tryd.underlying143 rfl (Tryd.sizeOf71 _) rfl ?_; exact hΦ
              · refine .inr ?_; intro s' R w' x Φ hs H hx hΦ; have e3 : x 3 = .pointer (some ⟨b17, 0, none⟩) := hx 3 (by decide) (by decide); simp only [e3]; refine wantG rfl ?_; refine L_1 1 _ _ rfl (Tryd.isAgg71 _) rfl H rfl rfl ?_; exact hΦ
              · refine .inr ?_; intro s' R w' x Φ hs H hx hΦ; refine wantG rfl ?_; refine G_pNi 0 _ _ rfl (Tryd.isAgg108 _) rfl H rfl (Tryd.sizeOf108 _) ?_; exact hΦ
              · exact .inl (by decide)
              · exact .inl (by decide)
            · refine ⟨?_, ?_, trivial⟩
              · intro o ho; obtain rfl := Option.some.inj ho; intro w' x Φ hS hx hΦ
                have H : Holds E s (pt b9 (.cells #[.int .i64 x3.kind, .string x3.key, .int .i64 x3.value, .slice A3e1 x3.list.length c3e1, .bool x3.has, .bool x3.isNil] 108 (0, 0)) :: pt b17 (.cells #[.slice A_y3_c0_0 y3_c0_0.length c_y3_c0_0] 143 (0, 0)) :: (kOp.sh s).Osl (.slice A_y3_c0_0 y3_c0_0.length c_y3_c0_0) y3_c0_0 :: (kOp.sh s).Osl (.slice A_p0_l a0.l.length c_p0_l) a0.l :: pt b_p0 (.cells #[.slice A_p0_l a0.l.length c_p0_l] 143 (0, 0)) :: L) w' := hS; clear hS
                have e5 : x 5 = .agg #[.int .i64 x3.kind, .string x3.key, .int .i64 x3.value, .slice A3e1 x3.list.length c3e1, .bool x3.has, .bool x3.isNil] := hx 5 (by decide) (by decide)
                simp only [e5]
                refine wantG rfl ?_
                refine SL_1 rfl (v := .agg #[.int .i64 x3.kind, .string x3.key, .int .i64 x3.value, .slice A3e1 x3.list.length c3e1, .bool x3.has, .bool x3.isNil]) rfl Tryd.underlying71 Tryd.sizeOf108 Tryd.zeroValue108 rfl rfl (by decide) (by decide) H ?_; clear H; intro b46 w1 H; (try simp only [Value.cells] at H)
                exact hΦ _ _ ⟨b46, updV_same, H⟩
              · intro o ho; obtain rfl := Option.some.inj ho; intro w' x Φ hS hx hΦ
                obtain ⟨b46, e6, H⟩ := hS
                have e4 : x 4 = .slice A_y3_c0_0 y3_c0_0.length c_y3_c0_0 := hx 4 (by decide) (by decide)
                simp only [e4, e6]
                refine wantG rfl ?_
                refine AP_1 (p := x3) 2 kOp_at _ _ rfl (kOp_mk' (s := s) (x := x3) h0e1 h1e1 h2e1 h3e1) H rfl rfl rfl hroomgx3 ?_; clear H; intro v3 w1 H; (try simp only [List.set_cons_succ, List.set_cons_zero] at H)
                rw [← egx3] at H
                obtain ⟨Av3, cv3, rfl, -⟩ := (H.front 2 rfl).len
                exact hΦ _ _ ⟨b46, Av3, cv3, (updV_ne (by decide)).trans e6, updV_same, H⟩
            · clear H
              intro w' x hS hx
              obtain ⟨b46, Av3, cv3, e6, e7, H⟩ := hS
              have e0 : x 0 = .pointer (some ⟨b17, 0, none⟩) := hx 0 (by decide) (by decide)
              have e1 : x 1 = .pointer (some ⟨b17, 0, none⟩) := hx 1 (by decide) (by decide)
              have e2 : x 2 = .pointer (some ⟨b17, 0, none⟩) := hx 2 (by decide) (by decide)
              have e3 : x 3 = .pointer (some ⟨b17, 0, none⟩) := hx 3 (by decide) (by decide)
              have e4 : x 4 = .slice A_y3_c0_0 y3_c0_0.length c_y3_c0_0 := hx 4 (by decide) (by decide)
              have e5 : x 5 = .agg #[.int .i64 x3.kind, .string x3.key, .int .i64 x3.value, .slice A3e1 x3.list.length c3e1, .bool x3.has, .bool x3.isNil] := hx 5 (by decide) (by decide)
              simp only [e0, e1, e2, e3, e4, e5, e6, e7]
              clear hx
              apply seq_op (V := .pointer (some ⟨b17, 0, none⟩)) rfl
              · exact fun _ h => O_nil rfl rfl h
              (try simp only [PT])
              apply seq_op (V := .pointer (some ⟨b17, 0, none⟩)) rfl
              · exact fun _ h => O_fld rfl Tryd.underlying143 rfl (Tryd.sizeOf71 _) rfl h
              (try simp only [PT])
              refine OpG.list rfl ?_; refine S_1 1 _ _ _ rfl (Tryd.sizeOf71 _) rfl (v := .slice Av3 u3.length cv3) rfl H rfl ?_ ?_ ?_; (focus (first | rfl | (simp [Value.oneCell']; done))); (focus (simp; done)); clear H; intro w1 H; simp only [List.set_cons_succ, List.set_cons_zero] at H
              (try simp only [PT])
              refine list_end ?_
              refine block_norm ?_
              refine then_norm ?_
              refine wp_region_lit ?_
              apply seq_op (V := .int .i64 (IntKind.i64.wrap ((k3 : Int) + 1))) rfl
              · exact fun _ h => O_bin rfl rfl rfl eqg_int r_add h
              (try simp only [PT])
              apply seq_op (V := .int .i64 (IntKind.i64.wrap ((k3 : Int) + 1))) rfl
              · exact fun _ h => O_mv rfl rfl h
              (try simp only [PT])
              refine list_end ?_
              refine then_norm ?_
              replace H := H.drop
              refine ⟨⟨⟨rfl, rfl, rfl, rfl, rfl, rfl, rfl, rfl, rfl, rfl, rfl, rfl, rfl, rfl, rfl, rfl, rfl, rfl, rfl, rfl, rfl, rfl, rfl, rfl, rfl, rfl⟩, rfl⟩, ⟨k3 + 1, _, u3, Av3, cv3, hd3'', wrap_succ hl3 hn3, hq3, H⟩, ?_⟩
              exact meas_succ hl3 hn3
          · have hc3 := hc
            clear hc
            replace hq3 := ifF hc3 hq3
            refine wp_skip ?_
            refine block_norm ?_
            refine then_norm ?_
            refine wp_region_lit ?_
            apply seq_op (V := .int .i64 (IntKind.i64.wrap ((k3 : Int) + 1))) rfl
            · exact fun _ h => O_bin rfl rfl rfl eqg_int r_add h
            (try simp only [PT])
            apply seq_op (V := .int .i64 (IntKind.i64.wrap ((k3 : Int) + 1))) rfl
            · exact fun _ h => O_mv rfl rfl h
            (try simp only [PT])
            refine list_end ?_
            refine then_norm ?_
            replace H := H.drop
            refine ⟨⟨⟨rfl, rfl, rfl, rfl, rfl, rfl, rfl, rfl, rfl, rfl, rfl, rfl, rfl, rfl, rfl, rfl, rfl, rfl, rfl, rfl, rfl, rfl, rfl, rfl, rfl, rfl⟩, rfl⟩, ⟨k3 + 1, _, y3_c0_0, A_y3_c0_0, c_y3_c0_0, hd3'', wrap_succ hl3 hn3, hq3, H⟩, ?_⟩
            exact meas_succ hl3 hn3
      · replace hq3 := ifF hg1 hq3
        refine wp_region_lit ?_
        apply seq_op (V := .bool a2) rfl
        · exact fun _ h => O_mv rfl rfl h
        (try simp only [PT])
        apply seq_op (V := .bool (!a2)) rfl
        · exact fun _ h => O_not rfl rfl h
        (try simp only [PT])
        apply seq_op (V := .bool (!a2)) rfl
        · exact fun _ h => O_mv rfl rfl h
        (try simp only [PT])
        refine seq_skip ((wanted_t rfl rfl rfl).trans hg1) ?_
        (try simp only [PT])
        refine seq_skip ((wanted_t rfl rfl rfl).trans hg1) ?_
        (try simp only [PT])
        refine seq_skip ((wanted_t rfl rfl rfl).trans hg1) ?_
        (try simp only [PT])
        refine seq_skip ((wanted_t rfl rfl rfl).trans hg1) ?_
        (try simp only [PT])
        apply seq_op (V := .bool false) rfl
        · exact fun _ h => O_pickF rfl rfl hg1 rfl h
        (try simp only [PT])
        refine list_end ?_
        refine then_norm ?_
        refine wp_cond_false rfl ?_
        refine wp_skip ?_
        refine then_norm ?_
        refine wp_seq ?_
        refine wp_region_lit ?_
        apply seq_op (V := .pointer (some ⟨b9, 0, none⟩)) rfl
        · exact fun _ h => O_fld rfl Tryd.underlying108 rfl (Tryd.sizeOf3 _) rfl h
        (try simp only [PT])
        apply seq_op (V := .int .i64 x3.kind) rfl
        · exact fun _ h => L_1 0 _ _ rfl (Tryd.isAgg3 _) rfl H rfl rfl h
        (try simp only [PT])
        apply seq_op (V := .bool (x3.kind == 1)) rfl
        · exact fun _ h => O_bin rfl rfl rfl eqg_int r_eql h
        (try simp only [PT])
        apply seq_op (V := .bool (x3.kind == 1)) rfl
        · exact fun _ h => O_mv rfl rfl h
        (try simp only [PT])
        refine seq_opg (c := (!(x3.kind == 1))) (V := .pointer (some ⟨b9, 0, none⟩)) (by first | exact wanted_f rfl rfl rfl | exact wanted_vf rfl rfl rfl) ?_ ?_
        · intro hc Φ hΦ; refine O_fld rfl Tryd.underlying108 rfl (Tryd.sizeOf3 _) rfl ?_; exact hΦ
        (try simp only [PT])
        refine seq_opg (c := (!(x3.kind == 1))) (V := .int .i64 x3.kind) (by first | exact wanted_f rfl rfl rfl | exact wanted_vf rfl rfl rfl) ?_ ?_
        · intro hc Φ hΦ; (repeat (first | rw [vg_of hc] | rw [vg_of (and_l hc)] | rw [vg_of (and_l (and_l hc))] | rw [vg_of (and_l (and_l (and_l hc)))] | rw [vg_and hc])); refine L_1 0 _ _ rfl (Tryd.isAgg3 _) rfl H rfl rfl ?_; exact hΦ
        (try simp only [PT])
        refine seq_opg (c := (!(x3.kind == 1))) (V := .bool (x3.kind == 3)) (by first | exact wanted_f rfl rfl rfl | exact wanted_vf rfl rfl rfl) ?_ ?_
        · intro hc Φ hΦ; (repeat (first | rw [vg_of hc] | rw [vg_of (and_l hc)] | rw [vg_of (and_l (and_l hc))] | rw [vg_of (and_l (and_l (and_l hc)))] | rw [vg_and hc])); refine O_bin rfl rfl rfl eqg_int r_eql ?_; exact hΦ
        (try simp only [PT])
        apply seq_op (V := .bool ((x3.kind == 1) || (x3.kind == 3))) rfl
        · exact fun _ h => G_or _ _ _ rfl rfl rfl rfl h
        (try simp only [PT])
        refine list_end ?_
        refine then_norm ?_
        refine wp_cond_split rfl (fun hc => ?_) (fun hc => ?_)
        · have hc2 := hc
          clear hc
          replace hq3 := ifT hc2 hq3
          obtain ⟨u2, gx2, hq3⟩ := bs hq3
          obtain ⟨hroomgx2, egx2⟩ := app_some gx2
          refine wp_draw_C (k := 8) (sz := 58) [6, 7] [.pointer (some ⟨b17, 0, none⟩), .pointer (some ⟨b17, 0, none⟩), .pointer (some ⟨b17, 0, none⟩), .pointer (some ⟨b17, 0, none⟩), .slice A_y3_c0_0 y3_c0_0.length c_y3_c0_0, .agg #[.int .i64 x3.kind, .string x3.key, .int .i64 x3.value, .slice A3e1 x3.list.length c3e1, .bool x3.has, .bool x3.isNil], undef, undef] [pt b9 (.cells #[.int .i64 x3.kind, .string x3.key, .int .i64 x3.value, .slice A3e1 x3.list.length c3e1, .bool x3.has, .bool x3.isNil] 108 (0, 0)), pt b17 (.cells #[.slice A_y3_c0_0 y3_c0_0.length c_y3_c0_0] 143 (0, 0))] [fun w x => ∃ (b46 : Nat), x 6 = .slice (some ⟨b46, 0, none⟩) 1 1 ∧ Holds E s (pt b46 (.cells #[.int .i64 x3.kind, .string x3.key, .int .i64 x3.value, .slice A3e1 x3.list.length c3e1, .bool x3.has, .bool x3.isNil] 108 (0, 0)) :: pt b9 (.cells #[.int .i64 x3.kind, .string x3.key, .int .i64 x3.value, .slice A3e1 x3.list.length c3e1, .bool x3.has, .bool x3.isNil] 108 (0, 0)) :: pt b17 (.cells #[.slice A_y3_c0_0 y3_c0_0.length c_y3_c0_0] 143 (0, 0)) :: (kOp.sh s).Osl (.slice A_y3_c0_0 y3_c0_0.length c_y3_c0_0) y3_c0_0 :: (kOp.sh s).Osl (.slice A_p0_l a0.l.length c_p0_l) a0.l :: pt b_p0 (.cells #[.slice A_p0_l a0.l.length c_p0_l] 143 (0, 0)) :: L) w, fun w x => ∃ (b46 : Nat) (Av3 : Option Addr) (cv3 : Nat), x 6 = .slice (some ⟨b46, 0, none⟩) 1 1 ∧ x 7 = .slice Av3 u2.length cv3 ∧ Holds E s (pt b9 (.cells #[.int .i64 x3.kind, .string x3.key, .int .i64 x3.value, .slice A3e1 x3.list.length c3e1, .bool x3.has, .bool x3.isNil] 108 (0, 0)) :: pt b17 (.cells #[.slice A_y3_c0_0 y3_c0_0.length c_y3_c0_0] 143 (0, 0)) :: (kOp.sh s).Osl (.slice Av3 u2.length cv3) u2 :: (kOp.sh s).Osl (.slice A_p0_l a0.l.length c_p0_l) a0.l :: pt b_p0 (.cells #[.slice A_p0_l a0.l.length c_p0_l] 143 (0, 0)) :: L) w] mixed (by simp) rfl (by kernel_rfl) (by kernel_rfl) (by kernel_rfl) (by simp) rfl H (by simp only [List.take_succ_cons, List.take_zero]; exact rfl) (by simp only [List.drop_succ_cons, List.drop_zero]; exact rfl)
            (fun x => by simp only [ov, Act.put, List.setIfInBounds_toArray, List.set_cons_succ, List.set_cons_zero, Nat.zero_add, Nat.reduceAdd]; exact rfl) ?_ ?_ ?_ ?_
          · refine ⟨?_, ?_, ?_, trivial⟩
            · intro w x hS; have H : Holds E s (pt b9 (.cells #[.int .i64 x3.kind, .string x3.key, .int .i64 x3.value, .slice A3e1 x3.list.length c3e1, .bool x3.has, .bool x3.isNil] 108 (0, 0)) :: pt b17 (.cells #[.slice A_y3_c0_0 y3_c0_0.length c_y3_c0_0] 143 (0, 0)) :: (kOp.sh s).Osl (.slice A_y3_c0_0 y3_c0_0.length c_y3_c0_0) y3_c0_0 :: (kOp.sh s).Osl (.slice A_p0_l a0.l.length c_p0_l) a0.l :: pt b_p0 (.cells #[.slice A_p0_l a0.l.length c_p0_l] 143 (0, 0)) :: L) w := hS; replace H := H.front 1 rfl; simp only [List.eraseIdx_cons_succ, List.eraseIdx_cons_zero] at H; replace H := H.front 1 rfl; simp only [List.eraseIdx_cons_succ, List.eraseIdx_cons_zero] at H; exact ⟨_, _, Sub.refl _, H⟩
            · intro w x hS; obtain ⟨b46, e6, H⟩ := hS; replace H := H.front 2 rfl; simp only [List.eraseIdx_cons_succ, List.eraseIdx_cons_zero] at H; replace H := H.front 2 rfl; simp only [List.eraseIdx_cons_succ, List.eraseIdx_cons_zero] at H; exact ⟨_, _, Sub.refl _, H⟩
            · intro w x hS; obtain ⟨b46, Av3, cv3, e6, e7, H⟩ := hS; replace H := H.front 1 rfl; simp only [List.eraseIdx_cons_succ, List.eraseIdx_cons_zero] at H; replace H := H.front 1 rfl; simp only [List.eraseIdx_cons_succ, List.eraseIdx_cons_zero] at H; exact ⟨_, _, Sub.refl _, H⟩
          · refine ⟨?_, ?_, ?_, ?_, ?_, ?_, ?_, ?_, trivial⟩
            · refine .inr ?_; intro s' R w' x Φ hs H hx hΦ; refine wantG rfl ?_; refine O_mv rfl rfl ?_; exact hΦ
            · refine .inr ?_; intro s' R w' x Φ hs H hx hΦ; refine wantG rfl ?_; refine O_mv rfl rfl ?_; exact hΦ
            · refine .inr ?_; intro s' R w' x Φ hs H hx hΦ; have e1 : x 1 = .pointer (some ⟨b17, 0, none⟩) := hx 1 (by decide) (by decide); simp only [e1]; refine wantG rfl ?_; refine O_nil rfl rfl ?_; exact hΦ
            · refine .inr ?_; intro s' R w' x Φ hs H hx hΦ; have e2 : x 2 = .pointer (some ⟨b17, 0, none⟩) := hx 2 (by decide) (by decide); simp only [e2]; refine wantG rfl ?_; refine O_fld rfl Tryd.underlying143 rfl (Tryd.sizeOf71 _) rfl ?_; exact hΦ
            · refine .inr ?_; intro s' R w' x Φ hs H hx hΦ; have e3 : x 3 = .pointer (some ⟨b17, 0, none⟩) := hx 3 (by decide) (by decide); simp only [e3]; refine wantG rfl ?_; refine L_1 1 _ _ rfl (Tryd.isAgg71 _) rfl H rfl rfl ?_; exact hΦ
            · refine .inr ?_; intro s' R w' x Φ hs H hx hΦ; refine wantG rfl ?_; refine G_pNi 0 _ _ rfl (Tryd.isAgg108 _) rfl H rfl (Tryd.sizeOf108 _) ?_; exact hΦ
            · exact .inl (by decide)
            · exact .inl (by decide)
          · refine ⟨?_, ?_, trivial⟩
            · intro o ho; obtain rfl := Option.some.inj ho; intro w' x Φ hS hx hΦ
              have H : Holds E s (pt b9 (.cells #[.int .i64 x3.kind, .string x3.key, .int .i64 x3.value, .slice A3e1 x3.list.length c3e1, .bool x3.has, .bool x3.isNil] 108 (0, 0)) :: pt b17 (.cells #[.slice A_y3_c0_0 y3_c0_0.length c_y3_c0_0] 143 (0, 0)) :: (kOp.sh s).Osl (.slice A_y3_c0_0 y3_c0_0.length c_y3_c0_0) y3_c0_0 :: (kOp.sh s).Osl (.slice A_p0_l a0.l.length c_p0_l) a0.l :: pt b_p0 (.cells #[.slice A_p0_l a0.l.length c_p0_l] 143 (0, 0)) :: L) w' := hS; clear hS
              have e5 : x 5 = .agg #[.int .i64 x3.kind, .string x3.key, .int .i64 x3.value, .slice A3e1 x3.list.length c3e1, .bool x3.has, .bool x3.isNil] := hx 5 (by decide) (by decide)
              simp only [e5]
              refine wantG rfl ?_
              refine SL_1 rfl (v := .agg #[.int .i64 x3.kind, .string x3.key, .int .i64 x3.value, .slice A3e1 x3.list.length c3e1, .bool x3.has, .bool x3.isNil]) rfl Tryd.underlying71 Tryd.sizeOf108 Tryd.zeroValue108 rfl rfl (by decide) (by decide) H ?_; clear H; intro b46 w1 H; (try simp only [Value.cells] at H)
              exact hΦ _ _ ⟨b46, updV_same, H⟩
            · intro o ho; obtain rfl := Option.some.inj ho; intro w' x Φ hS hx hΦ
              obtain ⟨b46, e6, H⟩ := hS
              have e4 : x 4 = .slice A_y3_c0_0 y3_c0_0.length c_y3_c0_0 := hx 4 (by decide) (by decide)
              simp only [e4, e6]
              refine wantG rfl ?_
              refine AP_1 (p := x3) 2 kOp_at _ _ rfl (kOp_mk' (s := s) (x := x3) h0e1 h1e1 h2e1 h3e1) H rfl rfl rfl hroomgx2 ?_; clear H; intro v3 w1 H; (try simp only [List.set_cons_succ, List.set_cons_zero] at H)
              rw [← egx2] at H
              obtain ⟨Av3, cv3, rfl, -⟩ := (H.front 2 rfl).len
              exact hΦ _ _ ⟨b46, Av3, cv3, (updV_ne (by decide)).trans e6, updV_same, H⟩
          · clear H
            intro w' x hS hx
            obtain ⟨b46, Av3, cv3, e6, e7, H⟩ := hS
            have e0 : x 0 = .pointer (some ⟨b17, 0, none⟩) := hx 0 (by decide) (by decide)
            have e1 : x 1 = .pointer (some ⟨b17, 0, none⟩) := hx 1 (by decide) (by decide)
            have e2 : x 2 = .pointer (some ⟨b17, 0, none⟩) := hx 2 (by decide) (by decide)
            have e3 : x 3 = .pointer (some ⟨b17, 0, none⟩) := hx 3 (by decide) (by decide)
            have e4 : x 4 = .slice A_y3_c0_0 y3_c0_0.length c_y3_c0_0 := hx 4 (by decide) (by decide)
            have e5 : x 5 = .agg #[.int .i64 x3.kind, .string x3.key, .int .i64 x3.value, .slice A3e1 x3.list.length c3e1, .bool x3.has, .bool x3.isNil] := hx 5 (by decide) (by decide)
            simp only [e0, e1, e2, e3, e4, e5, e6, e7]
            clear hx
            apply seq_op (V := .pointer (some ⟨b17, 0, none⟩)) rfl
            · exact fun _ h => O_nil rfl rfl h
            (try simp only [PT])
            apply seq_op (V := .pointer (some ⟨b17, 0, none⟩)) rfl
            · exact fun _ h => O_fld rfl Tryd.underlying143 rfl (Tryd.sizeOf71 _) rfl h
            (try simp only [PT])
            refine OpG.list rfl ?_; refine S_1 1 _ _ _ rfl (Tryd.sizeOf71 _) rfl (v := .slice Av3 u2.length cv3) rfl H rfl ?_ ?_ ?_; (focus (first | rfl | (simp [Value.oneCell']; done))); (focus (simp; done)); clear H; intro w1 H; simp only [List.set_cons_succ, List.set_cons_zero] at H
            (try simp only [PT])
            refine list_end ?_
            refine block_norm ?_
            refine then_norm ?_
            refine wp_region_lit ?_
            apply seq_op (V := .int .i64 (IntKind.i64.wrap ((k3 : Int) + 1))) rfl
            · exact fun _ h => O_bin rfl rfl rfl eqg_int r_add h
            (try simp only [PT])
            apply seq_op (V := .int .i64 (IntKind.i64.wrap ((k3 : Int) + 1))) rfl
            · exact fun _ h => O_mv rfl rfl h
            (try simp only [PT])
            refine list_end ?_
            refine then_norm ?_
            replace H := H.drop
            refine ⟨⟨⟨rfl, rfl, rfl, rfl, rfl, rfl, rfl, rfl, rfl, rfl, rfl, rfl, rfl, rfl, rfl, rfl, rfl, rfl, rfl, rfl, rfl, rfl, rfl, rfl, rfl, rfl⟩, rfl⟩, ⟨k3 + 1, _, u2, Av3, cv3, hd3'', wrap_succ hl3 hn3, hq3, H⟩, ?_⟩
            exact meas_succ hl3 hn3
        · have hc2 := hc
          clear hc
          replace hq3 := ifF hc2 hq3
          refine wp_skip ?_
          refine block_norm ?_
          refine then_norm ?_
          refine wp_region_lit ?_
          apply seq_op (V := .int .i64 (IntKind.i64.wrap ((k3 : Int) + 1))) rfl
          · exact fun _ h => O_bin rfl rfl rfl eqg_int r_add h
          (try simp only [PT])
          apply seq_op (V := .int .i64 (IntKind.i64.wrap ((k3 : Int) + 1))) rfl
          · exact fun _ h => O_mv rfl rfl h
          (try simp only [PT])
          refine list_end ?_
          refine then_norm ?_
          replace H := H.drop
          refine ⟨⟨⟨rfl, rfl, rfl, rfl, rfl, rfl, rfl, rfl, rfl, rfl, rfl, rfl, rfl, rfl, rfl, rfl, rfl, rfl, rfl, rfl, rfl, rfl, rfl, rfl, rfl, rfl⟩, rfl⟩, ⟨k3 + 1, _, y3_c0_0, A_y3_c0_0, c_y3_c0_0, hd3'', wrap_succ hl3 hn3, hq3, H⟩, ?_⟩
          exact meas_succ hl3 hn3
    · have hc1 := hc
      clear hc
      obtain rfl := rng_f hd3 hc1
      rw [assayerref16_State_Apply_l3] at hq3
      refine wp_exit ?_
      refine then_exit ?_
      refine then_exit ?_
      have hq3 := Option.some.inj hq3
      subst hq3
      (try dsimp only at hm)
      refine block_exit ?_
      refine then_norm ?_
      refine wp_seq ?_
      refine wp_region_lit ?_
      apply seq_op (V := .pointer (some ⟨b_p0, 0, none⟩)) rfl
      · exact fun _ h => O_mv rfl rfl h
      (try simp only [PT])
      apply seq_op (V := .pointer (some ⟨b17, 0, none⟩)) rfl
      · exact fun _ h => O_mv rfl rfl h
      (try simp only [PT])
      apply seq_op (V := .pointer (some ⟨b17, 0, none⟩)) rfl
      · exact fun _ h => O_nil rfl rfl h
      (try simp only [PT])
      apply seq_op (V := .pointer (some ⟨b17, 0, none⟩)) rfl
      · exact fun _ h => O_fld rfl Tryd.underlying143 rfl (Tryd.sizeOf71 _) rfl h
      (try simp only [PT])
      apply seq_op (V := .slice A_y3_c0_0 y3_c0_0.length c_y3_c0_0) rfl
      · exact fun _ h => L_1 0 _ _ rfl (Tryd.isAgg71 _) rfl H rfl rfl h
      (try simp only [PT])
      apply seq_op (V := .pointer (some ⟨b_p0, 0, none⟩)) rfl
      · exact fun _ h => O_nil rfl rfl h
      (try simp only [PT])
      apply seq_op (V := .pointer (some ⟨b_p0, 0, none⟩)) rfl
      · exact fun _ h => O_fld rfl Tryd.underlying143 rfl (Tryd.sizeOf71 _) rfl h
      (try simp only [PT])
      refine OpG.list rfl ?_; refine S_1 3 _ _ _ rfl (Tryd.sizeOf71 _) rfl (v := .slice A_y3_c0_0 y3_c0_0.length c_y3_c0_0) rfl H rfl ?_ ?_ ?_; (focus (first | rfl | (simp [Value.oneCell']; done))); (focus (simp; done)); clear H; intro w1 H; simp only [List.set_cons_succ, List.set_cons_zero] at H
      (try simp only [PT])
      refine list_end ?_
      refine then_norm ?_
      refine wp_seq ?_
      refine wp_region_lit ?_
      apply seq_op (V := .bool true) rfl
      · exact fun _ h => O_as rfl rfl h
      (try simp only [PT])
      refine list_end ?_
      refine then_norm ?_
      refine wp_ret ?_
      have hm := Option.some.inj hm
      subst hm
      replace H := H.front 1 rfl; simp only [List.eraseIdx_cons_succ, List.eraseIdx_cons_zero] at H
      replace H := H.front 3 rfl; simp only [List.eraseIdx_cons_succ, List.eraseIdx_cons_zero] at H
      replace H := H.dropAt 3 rfl; simp only [List.eraseIdx_cons_succ, List.eraseIdx_cons_zero] at H
      replace H := H.dropAt 2 rfl; simp only [List.eraseIdx_cons_succ, List.eraseIdx_cons_zero] at H
      exact ret1 rfl (rv_tmp rfl) rfl ⟨A_y3_c0_0, c_y3_c0_0, y3_c0_0.length, rfl, H⟩
def assayerref16_Replay_l8 (x3 : Int) : Nat → List Int → (Bool ⊕ Unit)
  | k8, []  => .inr ()
  | k8, x8 :: r8 => if (x8 == x3) = true then (.inl false) else (assayerref16_Replay_l8 x3 (k8 + 1) r8)

def assayerref16_Replay_l3 (fuel : Nat) (a0 : List Txn) (a1 : List Int) : Nat → List Int → (List Op') → Option ((Bool ⊕ ((List Op') × (List Op'))))
  | k3, [] , y3_c1_0 => some (.inr (y3_c1_0, y3_c1_0))
  | k3, x3 :: r3, y3_c1_0 => if ((decide (x3 < 0)) || (decide (x3 ≥ (a0.length : Int)))) = true then (some (.inl false)) else ((sliJ a1 (k3 : Int)).bind fun u1 => letF (assayerref16_Replay_l8 x3 0 u1) fun | .inl z8_r => (some (.inl z8_r)) | .inr () => ((rdI a0 x3).bind fun u2 => (assayerref16_State_Apply_f fuel (⟨y3_c1_0⟩ : St16) u2.ops (u2.state == 3)).bind fun u3 => if (!u3.1) = true then (some (.inl false)) else (assayerref16_Replay_l3 fuel a0 a1 (k3 + 1) r3 u3.2.l)))

def assayerref16_Replay_f (fuel : Nat) (a0 : List Txn) (a1 : List Int) : Option Bool := (assayerref16_Replay_l3 fuel a0 a1 0 a1 []).bind fun | .inl z3_r => (some z3_r) | .inr (z3_c1_0, z3_p0) => (some true)

set_option maxHeartbeats 4000000 in
theorem assayerref16_Replay_w {E : World} {s : SH} {L : List HP} {w : World} {fuel : Nat} {a0 : List Txn} {a1 : List Int} {A_p0 : Option Addr} {c_p0 : Nat} (h_p0 : kT.Sl s (.slice A_p0 a0.length c_p0) a0) {A_p1 : Option Addr} {c_p1 : Nat} (h_p1 : kI.Sl s (.slice A_p1 a1.length c_p1) a1) {R : Bool} (hm : assayerref16_Replay_f fuel a0 a1 = some R) (H : Holds E s (L) w) :
    Calls Tryd.prog 100 #[.slice A_p0 a0.length c_p0, .slice A_p1 a1.length c_p1] w fun e w' => e = .returned (.bool R) ∧ Holds E s (L) w' := by
  unfold assayerref16_Replay_f at hm
  go_enter Tryd.func100, Tryd.ntmps100
  refine wp_seq ?_
  refine wp_region_lit ?_
  apply seq_op (V := .bool false) rfl
  · exact fun _ h => O_as rfl rfl h
  (try simp only [PT])
  refine list_end ?_
  refine then_norm ?_
  refine wp_seq ?_
  refine wp_region_lit ?_
  apply seq_op (V := .agg #[.slice none 0 0]) rfl
  · exact fun _ h => O_bld (cs := [.slice none 0 0]) rfl (by kernel_rfl) h
  (try simp only [PT])
  refine OpG.list rfl ?_; refine B_x 143 _ rfl (v := .agg #[.slice none 0 0]) rfl H ?_; clear H; intro b11 w1 H; (try simp only [Value.cells] at H)
  (try simp only [PT])
  replace H := Kin.Osl.nil (d := kOp.sh s) H
  apply seq_op (V := .pointer (some ⟨b11, 0, none⟩)) rfl
  · exact fun _ h => O_as rfl rfl h
  (try simp only [PT])
  refine list_end ?_
  refine then_norm ?_
  refine wp_seq ?_
  refine wp_seq ?_
  refine wp_region_lit ?_
  apply seq_op (V := .slice A_p1 a1.length c_p1) rfl
  · exact fun _ h => O_mv rfl rfl h
  (try simp only [PT])
  apply seq_op (V := .int .i64 (a1.length : Int)) rfl
  · exact fun _ h => O_len rfl Tryd.underlying27 rfl h
  (try simp only [PT])
  apply seq_op (V := .int .i64 0) rfl
  · exact fun _ h => O_mv rfl rfl h
  (try simp only [PT])
  refine list_end ?_
  refine then_norm ?_
  refine wp_block ?_
  obtain ⟨R3, hq3, hm⟩ := bs hm
  have hn3 := Nat.le_trans (len_le (d := kI) h_p1 (by decide)) (by decide : (140737488355328 : Nat) ≤ 9223372036854775807)
  refine wp_loopF [none, none, none, none, some 4, none, some 6, some 7, none, some 9, none, none, none, none, some 14, some 15, some 16, some 17, some 18, some 19, some 20, some 21, some 22, some 23, some 24, some 25, some 26, some 27, some 28, some 29, some 30, some 31, some 32, some 33, some 34, some 35, some 36, some 37, some 38, some 39, some 40, some 41, some 42, some 43, some 44, some 45, some 46, some 47, some 48, some 49, some 50, some 51, some 52, some 53] rfl (by simp) (fun f w => ∃ (k3 : Nat) (r3 : List Int) (y3_c1_0 : List Op') (A_y3_c1_0 : Option Addr) (c_y3_c1_0 : Nat), a1.drop k3 = r3 ∧ f 14 = .int .i64 (k3 : Int) ∧ assayerref16_Replay_l3 fuel a0 a1 k3 r3 y3_c1_0 = some R3 ∧ Holds E s ((kOp.sh s).Osl (.slice A_y3_c1_0 y3_c1_0.length c_y3_c1_0) y3_c1_0 :: pt b11 (.cells #[.slice A_y3_c1_0 y3_c1_0.length c_y3_c1_0] 143 (0, 0)) :: L) w) (fun f w => a1.length - (intOf (f 14)).toNat) ?_ ?_
  · exact ⟨0, a1, [], none, 0, rfl, rfl, hq3, H⟩
  · clear H
    intro f w hI
    obtain ⟨k3, r3, y3_c1_0, A_y3_c1_0, c_y3_c1_0, hd3, hf14, hq3', H⟩ := hI
    clear hq3; have hq3 := hq3'; clear hq3'
    simp only [ovm, mixM]
    simp only [hf14]; clear hf14
    refine wp_seq ?_
    refine wp_region_lit ?_
    apply seq_op (V := .bool (decide ((k3 : Int) < (a1.length : Int)))) rfl
    · exact fun _ h => O_bin rfl rfl rfl eqg_int r_lss h
    (try simp only [PT])
    refine list_end ?_
    refine then_norm ?_
    refine wp_seq ?_
    refine wp_cond_split rfl (fun hc => ?_) (fun hc => ?_)
    · have hc1 := hc
      clear hc
      obtain ⟨x3, r3', rfl, hd3', hd3'', hl3⟩ := rng_t hd3 hc1
      rw [assayerref16_Replay_l3] at hq3
      refine wp_skip ?_
      refine then_norm ?_
      refine wp_seq ?_
      refine wp_block ?_
      refine wp_seq ?_
      obtain ⟨be1, oe1, rfl, hCe1, h0e1⟩ := kI_el h_p1 hd3'
      refine wp_region_lit ?_
      apply seq_op (V := .int .i64 (k3 : Int)) rfl
      · exact fun _ h => O_mv rfl rfl h
      (try simp only [PT])
      apply seq_op (V := .pointer (some ⟨be1, oe1 + k3 * 1, none⟩)) rfl
      · exact fun _ h => O_ix rfl Tryd.underlying27 (Tryd.sizeOf3 _) rfl rfl rfl hl3 h
      (try simp only [PT])
      apply seq_op (V := .int .i64 x3) rfl
      · exact fun _ h => G_s1 _ _ rfl (Tryd.isAgg3 _) rfl H hCe1 0 rfl rfl h
      (try simp only [PT])
      apply seq_op (V := .int .i64 (k3 : Int)) rfl
      · exact fun _ h => O_as rfl rfl h
      (try simp only [PT])
      apply seq_op (V := .int .i64 x3) rfl
      · exact fun _ h => O_as rfl rfl h
      (try simp only [PT])
      refine list_end ?_
      refine then_norm ?_
      refine wp_seq ?_
      refine wp_seq ?_
      refine wp_region_lit ?_
      apply seq_op (V := .int .i64 x3) rfl
      · exact fun _ h => O_mv rfl rfl h
      (try simp only [PT])
      apply seq_op (V := .bool (decide (x3 < 0))) rfl
      · exact fun _ h => O_bin rfl rfl rfl eqg_int r_lss h
      (try simp only [PT])
      apply seq_op (V := .bool (decide (x3 < 0))) rfl
      · exact fun _ h => O_mv rfl rfl h
      (try simp only [PT])
      refine seq_opg (c := (!(decide (x3 < 0)))) (V := .int .i64 x3) (by first | exact wanted_f rfl rfl rfl | exact wanted_vf rfl rfl rfl) ?_ ?_
      · intro hc Φ hΦ; refine O_mv rfl rfl ?_; exact hΦ
      (try simp only [PT])
      refine seq_opg (c := (!(decide (x3 < 0)))) (V := .slice A_p0 a0.length c_p0) (by first | exact wanted_f rfl rfl rfl | exact wanted_vf rfl rfl rfl) ?_ ?_
      · intro hc Φ hΦ; refine O_mv rfl rfl ?_; exact hΦ
      (try simp only [PT])
      refine seq_opg (c := (!(decide (x3 < 0)))) (V := .int .i64 (a0.length : Int)) (by first | exact wanted_f rfl rfl rfl | exact wanted_vf rfl rfl rfl) ?_ ?_
      · intro hc Φ hΦ; (repeat (first | rw [vg_of hc] | rw [vg_of (and_l hc)] | rw [vg_of (and_l (and_l hc))] | rw [vg_of (and_l (and_l (and_l hc)))] | rw [vg_and hc])); refine O_len rfl Tryd.underlying57 rfl ?_; exact hΦ
      (try simp only [PT])
      refine seq_opg (c := (!(decide (x3 < 0)))) (V := .bool (decide (x3 ≥ (a0.length : Int)))) (by first | exact wanted_f rfl rfl rfl | exact wanted_vf rfl rfl rfl) ?_ ?_
      · intro hc Φ hΦ; (repeat (first | rw [vg_of hc] | rw [vg_of (and_l hc)] | rw [vg_of (and_l (and_l hc))] | rw [vg_of (and_l (and_l (and_l hc)))] | rw [vg_and hc])); refine O_bin rfl rfl rfl eqg_int r_geq ?_; exact hΦ
      (try simp only [PT])
      apply seq_op (V := .bool ((decide (x3 < 0)) || (decide (x3 ≥ (a0.length : Int))))) rfl
      · exact fun _ h => G_or _ _ _ rfl rfl rfl rfl h
      (try simp only [PT])
      refine list_end ?_
      refine then_norm ?_
      refine wp_cond_split rfl (fun hc => ?_) (fun hc => ?_)
      · have hc2 := hc
        clear hc
        replace hq3 := ifT hc2 hq3
        refine wp_seq ?_
        refine wp_region_lit ?_
        apply seq_op (V := .bool false) rfl
        · exact fun _ h => O_as rfl rfl h
        (try simp only [PT])
        refine list_end ?_
        refine then_norm ?_
        refine wp_ret ?_
        refine then_ret ?_
        refine block_ret ?_
        refine then_ret ?_
        refine then_ret ?_
        refine block_ret ?_
        refine then_ret ?_
        have hq3 := Option.some.inj hq3
        subst hq3
        (try dsimp only at hm)
        have hm := Option.some.inj hm
        subst hm
        replace H := H.dropAt 1 rfl; simp only [List.eraseIdx_cons_succ, List.eraseIdx_cons_zero] at H
        replace H := H.dropAt 0 rfl; simp only [List.eraseIdx_cons_succ, List.eraseIdx_cons_zero] at H
        exact ret1 rfl (rv_tmp rfl) rfl ⟨rfl, H⟩
      · have hc2 := hc
        clear hc
        replace hq3 := ifF hc2 hq3
        refine wp_skip ?_
        refine then_norm ?_
        refine wp_seq ?_
        refine wp_seq ?_
        obtain ⟨u1, gx1, hq3⟩ := bs hq3
        obtain ⟨kq1, hiq1, hkq1, hnq1, hsq1⟩ := slJ_sl h_p1 gx1
        refine wp_region_lit ?_
        apply seq_op (V := .slice (some ⟨be1, oe1, none⟩) a1.length c_p1) rfl
        · exact fun _ h => O_mv rfl rfl h
        (try simp only [PT])
        apply seq_op (V := .int .i64 (k3 : Int)) rfl
        · exact fun _ h => O_mv rfl rfl h
        (try simp only [PT])
        apply seq_op (V := .slice (some ⟨be1, oe1, none⟩) u1.length c_p1) rfl
        · exact fun _ h => O_slJ kI_at rfl rfl rfl hiq1 hkq1 hnq1 h
        (try simp only [PT])
        apply seq_op (V := .int .i64 (u1.length : Int)) rfl
        · exact fun _ h => O_len rfl Tryd.underlying27 rfl h
        (try simp only [PT])
        apply seq_op (V := .int .i64 0) rfl
        · exact fun _ h => O_mv rfl rfl h
        (try simp only [PT])
        refine list_end ?_
        refine then_norm ?_
        refine wp_block ?_
        obtain ⟨R8, hq8, hq3⟩ := lfe hq3
        have hn8 := Nat.le_trans (len_le (d := kI) hsq1 (by decide)) (by decide : (140737488355328 : Nat) ≤ 9223372036854775807)
        refine wp_loopF [none, none, none, none, some 4, none, none, none, none, some 9, none, none, none, none, none, none, none, none, none, none, none, none, none, none, none, none, none, none, none, none, none, some 31, some 32, some 33, some 34, some 35, some 36, some 37, some 38, none, none, none, none, none, none, none, none, none, none, none, none, none, none, none] rfl (by simp) (fun f w => ∃ (k8 : Nat) (r8 : List Int), u1.drop k8 = r8 ∧ f 31 = .int .i64 (k8 : Int) ∧ assayerref16_Replay_l8 x3 k8 r8 = R8 ∧ Holds E s ((kOp.sh s).Osl (.slice A_y3_c1_0 y3_c1_0.length c_y3_c1_0) y3_c1_0 :: pt b11 (.cells #[.slice A_y3_c1_0 y3_c1_0.length c_y3_c1_0] 143 (0, 0)) :: L) w) (fun f w => u1.length - (intOf (f 31)).toNat) ?_ ?_
        · exact ⟨0, u1, rfl, rfl, hq8, H⟩
        · clear H
          intro f w hI
          obtain ⟨k8, r8, hd8, hf31, hq8', H⟩ := hI
          clear hq8; have hq8 := hq8'; clear hq8'
          simp only [ovm, mixM]
          simp only [hf31]; clear hf31
          refine wp_seq ?_
          refine wp_region_lit ?_
          apply seq_op (V := .bool (decide ((k8 : Int) < (u1.length : Int)))) rfl
          · exact fun _ h => O_bin rfl rfl rfl eqg_int r_lss h
          (try simp only [PT])
          refine list_end ?_
          refine then_norm ?_
          refine wp_seq ?_
          refine wp_cond_split rfl (fun hc => ?_) (fun hc => ?_)
          · have hc3 := hc
            clear hc
            obtain ⟨x8, r8', rfl, hd8', hd8'', hl8⟩ := rng_t hd8 hc3
            rw [assayerref16_Replay_l8] at hq8
            refine wp_skip ?_
            refine then_norm ?_
            refine wp_seq ?_
            refine wp_block ?_
            refine wp_seq ?_
            obtain ⟨hCe2, h0e2⟩ := kI_el2 hsq1 hd8'
            refine wp_region_lit ?_
            apply seq_op (V := .pointer (some ⟨be1, oe1 + k8 * 1, none⟩)) rfl
            · exact fun _ h => O_ix rfl Tryd.underlying27 (Tryd.sizeOf3 _) rfl rfl rfl hl8 h
            (try simp only [PT])
            apply seq_op (V := .int .i64 x8) rfl
            · exact fun _ h => G_s1 _ _ rfl (Tryd.isAgg3 _) rfl H hCe2 0 rfl rfl h
            (try simp only [PT])
            apply seq_op (V := .int .i64 x8) rfl
            · exact fun _ h => O_as rfl rfl h
            (try simp only [PT])
            refine list_end ?_
            refine then_norm ?_
            refine wp_seq ?_
            refine wp_region_lit ?_
            apply seq_op (V := .int .i64 x8) rfl
            · exact fun _ h => O_mv rfl rfl h
            (try simp only [PT])
            apply seq_op (V := .int .i64 x3) rfl
            · exact fun _ h => O_mv rfl rfl h
            (try simp only [PT])
            apply seq_op (V := .bool (x8 == x3)) rfl
            · exact fun _ h => O_bin rfl rfl rfl eqg_int r_eql h
            (try simp only [PT])
            refine list_end ?_
            refine then_norm ?_
            refine wp_cond_split rfl (fun hc => ?_) (fun hc => ?_)
            · have hc4 := hc
              clear hc
              replace hq8 := ifT hc4 hq8
              refine wp_seq ?_
              refine wp_region_lit ?_
              apply seq_op (V := .bool false) rfl
              · exact fun _ h => O_as rfl rfl h
              (try simp only [PT])
              refine list_end ?_
              refine then_norm ?_
              refine wp_ret ?_
              refine block_ret ?_
              refine then_ret ?_
              refine then_ret ?_
              refine block_ret ?_
              refine then_ret ?_
              refine block_ret ?_
              refine then_ret ?_
              refine then_ret ?_
              refine block_ret ?_
              refine then_ret ?_
              subst hq8
              (try dsimp only at hq3)
              have hq3 := Option.some.inj hq3
              subst hq3
              (try dsimp only at hm)
              have hm := Option.some.inj hm
              subst hm
              replace H := H.dropAt 1 rfl; simp only [List.eraseIdx_cons_succ, List.eraseIdx_cons_zero] at H
              replace H := H.dropAt 0 rfl; simp only [List.eraseIdx_cons_succ, List.eraseIdx_cons_zero] at H
              exact ret1 rfl (rv_tmp rfl) rfl ⟨rfl, H⟩
            · have hc4 := hc
              clear hc
              replace hq8 := ifF hc4 hq8
              refine wp_skip ?_
              refine block_norm ?_
              refine then_norm ?_
              refine wp_region_lit ?_
              apply seq_op (V := .int .i64 (IntKind.i64.wrap ((k8 : Int) + 1))) rfl
              · exact fun _ h => O_bin rfl rfl rfl eqg_int r_add h
              (try simp only [PT])
              apply seq_op (V := .int .i64 (IntKind.i64.wrap ((k8 : Int) + 1))) rfl
              · exact fun _ h => O_mv rfl rfl h
              (try simp only [PT])
              refine list_end ?_
              refine then_norm ?_
              refine ⟨⟨⟨rfl, rfl, rfl, rfl, rfl, rfl, rfl, rfl, rfl, rfl, rfl, rfl, rfl, rfl, rfl, rfl, rfl, rfl, rfl, rfl, rfl, rfl, rfl, rfl, rfl, rfl, rfl, rfl, rfl, rfl, rfl, rfl, rfl, rfl, rfl, rfl, rfl, rfl, rfl, rfl, rfl, rfl, rfl, rfl, rfl⟩, rfl⟩, ⟨k8 + 1, _, hd8'', wrap_succ hl8 hn8, hq8, H⟩, ?_⟩
              exact meas_succ hl8 hn8
          · have hc3 := hc
            clear hc
            obtain rfl := rng_f hd8 hc3
            rw [assayerref16_Replay_l8] at hq8
            refine wp_exit ?_
            refine then_exit ?_
            refine then_exit ?_
            subst hq8
            (try dsimp only at hq3)
            refine block_exit ?_
            refine then_norm ?_
            refine wp_seq ?_
            obtain ⟨u2, gx2, hq3⟩ := bs hq3
            obtain ⟨kk1, gk1, gl1, gd1⟩ := rdI_some gx2
            obtain ⟨be3, oe3, A4e3, c4e3, rfl, hCe3, h0e3, h1e3, h2e3, h3e3, h4e3⟩ := kT_el h_p0 gd1
            obtain ⟨u3, gx3, hq3⟩ := bs hq3
            refine wp_draw_C (k := 14) (sz := 54) [12, 13] [.pointer (some ⟨b11, 0, none⟩), .slice (some ⟨be3, oe3, none⟩) a0.length c_p0, .int .i64 x3, .pointer (some ⟨be3, oe3 + kk1 * 5, none⟩), .pointer (some ⟨be3, oe3 + kk1 * 5 + 4, none⟩), .slice A4e3 u2.ops.length c4e3, .slice (some ⟨be3, oe3, none⟩) a0.length c_p0, .int .i64 x3, .pointer (some ⟨be3, oe3 + kk1 * 5, none⟩), .pointer (some ⟨be3, oe3 + kk1 * 5 + 1, none⟩), .int .i64 u2.state, .bool (u2.state == 3), undef, undef] [] [fun w x => ∃ (Ar1o0_l : Option Addr) (cr1o0_l : Nat), x 12 = .bool u3.1 ∧ Holds E s (pt b11 (.cells #[.slice Ar1o0_l u3.2.l.length cr1o0_l] 143 (0, 0)) :: (kOp.sh s).Osl (.slice Ar1o0_l u3.2.l.length cr1o0_l) u3.2.l :: L) w, fun w x => ∃ (Ar1o0_l : Option Addr) (cr1o0_l : Nat), x 12 = .bool u3.1 ∧ x 13 = .bool (!u3.1) ∧ Holds E s (pt b11 (.cells #[.slice Ar1o0_l u3.2.l.length cr1o0_l] 143 (0, 0)) :: (kOp.sh s).Osl (.slice Ar1o0_l u3.2.l.length cr1o0_l) u3.2.l :: L) w] mixed (by simp) rfl (by kernel_rfl) (by kernel_rfl) (by kernel_rfl) (by simp) rfl H (by simp only [List.take_succ_cons, List.take_zero]; exact rfl) (by simp only [List.drop_succ_cons, List.drop_zero]; exact rfl)
              (fun x => by simp only [ov, Act.put, List.setIfInBounds_toArray, List.set_cons_succ, List.set_cons_zero, Nat.zero_add, Nat.reduceAdd]; exact rfl) ?_ ?_ ?_ ?_
            · refine ⟨?_, ?_, ?_, trivial⟩
              · intro w x hS; have H : Holds E s ((kOp.sh s).Osl (.slice A_y3_c1_0 y3_c1_0.length c_y3_c1_0) y3_c1_0 :: pt b11 (.cells #[.slice A_y3_c1_0 y3_c1_0.length c_y3_c1_0] 143 (0, 0)) :: L) w := hS; exact ⟨_, _, Sub.refl _, H⟩
              · intro w x hS; obtain ⟨Ar1o0_l, cr1o0_l, e12, H⟩ := hS; exact ⟨_, _, Sub.refl _, H⟩
              · intro w x hS; obtain ⟨Ar1o0_l, cr1o0_l, e12, e13, H⟩ := hS; exact ⟨_, _, Sub.refl _, H⟩
            · refine ⟨?_, ?_, ?_, ?_, ?_, ?_, ?_, ?_, ?_, ?_, ?_, ?_, ?_, ?_, trivial⟩
              · refine .inr ?_; intro s' R w' x Φ hs H hx hΦ; refine wantG rfl ?_; refine O_mv rfl rfl ?_; exact hΦ
              · refine .inr ?_; intro s' R w' x Φ hs H hx hΦ; refine wantG rfl ?_; refine O_mv rfl rfl ?_; exact hΦ
              · refine .inr ?_; intro s' R w' x Φ hs H hx hΦ; refine wantG rfl ?_; refine O_mv rfl rfl ?_; exact hΦ
              · refine .inr ?_; intro s' R w' x Φ hs H hx hΦ; have e1 : x 1 = .slice (some ⟨be3, oe3, none⟩) a0.length c_p0 := hx 1 (by decide) (by decide); have e2 : x 2 = .int .i64 x3 := hx 2 (by decide) (by decide); simp only [e1, e2]; refine wantG rfl ?_; refine O_ix rfl Tryd.underlying57 (Tryd.sizeOf75 _) rfl rfl gk1 gl1 ?_; exact hΦ
              · refine .inr ?_; intro s' R w' x Φ hs H hx hΦ; have e3 : x 3 = .pointer (some ⟨be3, oe3 + kk1 * 5, none⟩) := hx 3 (by decide) (by decide); simp only [e3]; refine wantG rfl ?_; refine O_fld rfl Tryd.underlying75 rfl (Tryd.sizeOf71 _) rfl ?_; exact hΦ
              · refine .inr ?_; intro s' R w' x Φ hs H hx hΦ; have e4 : x 4 = .pointer (some ⟨be3, oe3 + kk1 * 5 + 4, none⟩) := hx 4 (by decide) (by decide); simp only [e4]; refine wantG rfl ?_; refine G_s1 _ _ rfl (Tryd.isAgg71 _) rfl H (hCe3.mono hs) 4 rfl rfl ?_; exact hΦ
              · refine .inr ?_; intro s' R w' x Φ hs H hx hΦ; refine wantG rfl ?_; refine O_mv rfl rfl ?_; exact hΦ
              · refine .inr ?_; intro s' R w' x Φ hs H hx hΦ; refine wantG rfl ?_; refine O_mv rfl rfl ?_; exact hΦ
              · refine .inr ?_; intro s' R w' x Φ hs H hx hΦ; have e6 : x 6 = .slice (some ⟨be3, oe3, none⟩) a0.length c_p0 := hx 6 (by decide) (by decide); have e7 : x 7 = .int .i64 x3 := hx 7 (by decide) (by decide); simp only [e6, e7]; refine wantG rfl ?_; refine O_ix rfl Tryd.underlying57 (Tryd.sizeOf75 _) rfl rfl gk1 gl1 ?_; exact hΦ
              · refine .inr ?_; intro s' R w' x Φ hs H hx hΦ; have e8 : x 8 = .pointer (some ⟨be3, oe3 + kk1 * 5, none⟩) := hx 8 (by decide) (by decide); simp only [e8]; refine wantG rfl ?_; refine O_fld rfl Tryd.underlying75 rfl (Tryd.sizeOf3 _) rfl ?_; exact hΦ
              · refine .inr ?_; intro s' R w' x Φ hs H hx hΦ; have e9 : x 9 = .pointer (some ⟨be3, oe3 + kk1 * 5 + 1, none⟩) := hx 9 (by decide) (by decide); simp only [e9]; refine wantG rfl ?_; refine G_s1 _ _ rfl (Tryd.isAgg3 _) rfl H (hCe3.mono hs) 1 rfl rfl ?_; exact hΦ
              · refine .inr ?_; intro s' R w' x Φ hs H hx hΦ; have e10 : x 10 = .int .i64 u2.state := hx 10 (by decide) (by decide); simp only [e10]; refine wantG rfl ?_; refine O_bin rfl rfl rfl eqg_int r_eql ?_; exact hΦ
              · exact .inl (by decide)
              · exact .inl (by decide)
            · refine ⟨?_, ?_, trivial⟩
              · intro o ho; obtain rfl := Option.some.inj ho; intro w' x Φ hS hx hΦ
                have H : Holds E s ((kOp.sh s).Osl (.slice A_y3_c1_0 y3_c1_0.length c_y3_c1_0) y3_c1_0 :: pt b11 (.cells #[.slice A_y3_c1_0 y3_c1_0.length c_y3_c1_0] 143 (0, 0)) :: L) w' := hS; clear hS
                have e0 : x 0 = .pointer (some ⟨b11, 0, none⟩) := hx 0 (by decide) (by decide)
                have e5 : x 5 = .slice A4e3 u2.ops.length c4e3 := hx 5 (by decide) (by decide)
                have e11 : x 11 = .bool (u2.state == 3) := hx 11 (by decide) (by decide)
                simp only [e0, e5, e11]
                refine wantG rfl ?_
                replace H := H.front 1 rfl; simp only [List.eraseIdx_cons_succ, List.eraseIdx_cons_zero] at H
                refine O_call3 rfl Tryd.func43 rfl rfl rfl rfl rfl ?_; refine (assayerref16_State_Apply_w (fuel := fuel) (a0 := (⟨y3_c1_0⟩ : St16)) (a1 := u2.ops) (h_p1 := h4e3) (a2 := u2.state == 3) (hm := gx3) (H := H)).mono ?_
                clear H
                rintro e w1 ⟨Ar1o0_l, cr1o0_l, nr1o0_l, rfl, H⟩; refine ⟨_, rfl, ?_⟩
                obtain rfl := osl_len 1 H rfl
                exact hΦ _ _ ⟨Ar1o0_l, cr1o0_l, updV_same, H⟩
              · intro o ho; obtain rfl := Option.some.inj ho; intro w' x Φ hS hx hΦ
                obtain ⟨Ar1o0_l, cr1o0_l, e12, H⟩ := hS
                simp only [e12]
                refine wantG rfl ?_
                refine O_not rfl rfl ?_
                exact hΦ _ _ ⟨Ar1o0_l, cr1o0_l, (updV_ne (by decide)).trans e12, updV_same, H⟩
            · clear H
              intro w' x hS hx
              obtain ⟨Ar1o0_l, cr1o0_l, e12, e13, H⟩ := hS
              have e0 : x 0 = .pointer (some ⟨b11, 0, none⟩) := hx 0 (by decide) (by decide)
              have e1 : x 1 = .slice (some ⟨be3, oe3, none⟩) a0.length c_p0 := hx 1 (by decide) (by decide)
              have e2 : x 2 = .int .i64 x3 := hx 2 (by decide) (by decide)
              have e3 : x 3 = .pointer (some ⟨be3, oe3 + kk1 * 5, none⟩) := hx 3 (by decide) (by decide)
              have e4 : x 4 = .pointer (some ⟨be3, oe3 + kk1 * 5 + 4, none⟩) := hx 4 (by decide) (by decide)
              have e5 : x 5 = .slice A4e3 u2.ops.length c4e3 := hx 5 (by decide) (by decide)
              have e6 : x 6 = .slice (some ⟨be3, oe3, none⟩) a0.length c_p0 := hx 6 (by decide) (by decide)
              have e7 : x 7 = .int .i64 x3 := hx 7 (by decide) (by decide)
              have e8 : x 8 = .pointer (some ⟨be3, oe3 + kk1 * 5, none⟩) := hx 8 (by decide) (by decide)
              have e9 : x 9 = .pointer (some ⟨be3, oe3 + kk1 * 5 + 1, none⟩) := hx 9 (by decide) (by decide)
              have e10 : x 10 = .int .i64 u2.state := hx 10 (by decide) (by decide)
              have e11 : x 11 = .bool (u2.state == 3) := hx 11 (by decide) (by decide)
              simp only [e0, e1, e2, e3, e4, e5, e6, e7, e8, e9, e10, e11, e12, e13]
              clear hx
              refine list_end ?_
              refine then_norm ?_
              refine wp_cond_split rfl (fun hc => ?_) (fun hc => ?_)
              · have hc5 := hc
                clear hc
                replace hq3 := ifT hc5 hq3
                refine wp_seq ?_
                refine wp_region_lit ?_
                apply seq_op (V := .bool false) rfl
                · exact fun _ h => O_as rfl rfl h
                (try simp only [PT])
                refine list_end ?_
                refine then_norm ?_
                refine wp_ret ?_
                refine block_ret ?_
                refine then_ret ?_
                refine then_ret ?_
                refine block_ret ?_
                refine then_ret ?_
                have hq3 := Option.some.inj hq3
                subst hq3
                (try dsimp only at hm)
                have hm := Option.some.inj hm
                subst hm
                replace H := H.dropAt 1 rfl; simp only [List.eraseIdx_cons_succ, List.eraseIdx_cons_zero] at H
                replace H := H.dropAt 0 rfl; simp only [List.eraseIdx_cons_succ, List.eraseIdx_cons_zero] at H
                exact ret1 rfl (rv_tmp rfl) rfl ⟨rfl, H⟩
              · have hc5 := hc
                clear hc
                replace hq3 := ifF hc5 hq3
                refine wp_skip ?_
                refine block_norm ?_
                refine then_norm ?_
                refine wp_region_lit ?_
                apply seq_op (V := .int .i64 (IntKind.i64.wrap ((k3 : Int) + 1))) rfl
                · exact fun _ h => O_bin rfl rfl rfl eqg_int r_add h
                (try simp only [PT])
                apply seq_op (V := .int .i64 (IntKind.i64.wrap ((k3 : Int) + 1))) rfl
                · exact fun _ h => O_mv rfl rfl h
                (try simp only [PT])
                refine list_end ?_
                refine then_norm ?_
                replace H := H.front 1 rfl; simp only [List.eraseIdx_cons_succ, List.eraseIdx_cons_zero] at H
                refine ⟨⟨⟨rfl, rfl, rfl, rfl, rfl, rfl, rfl, rfl, rfl, rfl, rfl⟩, rfl⟩, ⟨k3 + 1, _, u3.2.l, Ar1o0_l, cr1o0_l, hd3'', wrap_succ hl3 hn3, hq3, H⟩, ?_⟩
                exact meas_succ hl3 hn3
    · have hc1 := hc
      clear hc
      obtain rfl := rng_f hd3 hc1
      rw [assayerref16_Replay_l3] at hq3
      refine wp_exit ?_
      refine then_exit ?_
      refine then_exit ?_
      have hq3 := Option.some.inj hq3
      subst hq3
      (try dsimp only at hm)
      refine block_exit ?_
      refine then_norm ?_
      refine wp_seq ?_
      refine wp_region_lit ?_
      apply seq_op (V := .bool true) rfl
      · exact fun _ h => O_as rfl rfl h
      (try simp only [PT])
      refine list_end ?_
      refine then_norm ?_
      refine wp_ret ?_
      have hm := Option.some.inj hm
      subst hm
      replace H := H.dropAt 1 rfl; simp only [List.eraseIdx_cons_succ, List.eraseIdx_cons_zero] at H
      replace H := H.dropAt 0 rfl; simp only [List.eraseIdx_cons_succ, List.eraseIdx_cons_zero] at H
      exact ret1 rfl (rv_tmp rfl) rfl ⟨rfl, H⟩
def model_Replay_l4 (a0 : List Txn) : Nat → List Int → (Int → Option Bool) → (ByteArray → Option (List Int)) → (ByteArray → Option Int) → Option ((Bool ⊕ ((ByteArray → Option (List Int)) × (ByteArray → Option Int) × (Int → Option Bool))))
  | k4, [] , y4_p0, y4_c1_0, y4_c1_1 => some (.inr (y4_c1_0, y4_c1_1, y4_p0))
  | k4, x4 :: r4, y4_p0, y4_c1_0, y4_c1_1 => if (decide (x4 < 0)) = true then (some (.inl false)) else (if (decide (x4 ≥ (a0.length : Int))) = true then (some (.inl false)) else (if ((y4_p0 x4).getD false) = true then (some (.inl false)) else ((rdI a0 x4).bind fun u1 => (model_State_Apply_f (⟨y4_c1_0, y4_c1_1⟩ : MSt) u1.ops (u1.state == 3)).bind fun u38601 => if (!u38601.1) = true then (some (.inl false)) else (model_Replay_l4 a0 (k4 + 1) r4 (fset y4_p0 x4 true) u38601.2.lists u38601.2.regs))))

def model_Replay_f (a0 : List Txn) (a1 : List Int) : Option Bool := (model_Replay_l4 a0 0 a1 fnil model_New_f.lists model_New_f.regs).bind fun | .inl z4_r => (some z4_r) | .inr (z4_c1_0, z4_c1_1, z4_p0) => (some true)

set_option maxHeartbeats 4000000 in
theorem model_Replay_w {E : World} {s : SH} {L : List HP} {w : World} {a0 : List Txn} {a1 : List Int} {A_p0 : Option Addr} {c_p0 : Nat} (h_p0 : kT.Sl s (.slice A_p0 a0.length c_p0) a0) {A_p1 : Option Addr} {c_p1 : Nat} (h_p1 : kI.Sl s (.slice A_p1 a1.length c_p1) a1) {R : Bool} (hm : model_Replay_f a0 a1 = some R) (H : Holds E s (L) w) :
    Calls Tryd.prog 103 #[.slice A_p0 a0.length c_p0, .slice A_p1 a1.length c_p1] w fun e w' => e = .returned (.bool R) ∧ Holds E s (L) w' := by
  unfold model_Replay_f at hm
  go_enter Tryd.func103, Tryd.ntmps103
  refine wp_seq ?_
  refine wp_region_lit ?_
  apply seq_op (V := .bool false) rfl
  · exact fun _ h => O_as rfl rfl h
  (try simp only [PT])
  refine list_end ?_
  refine then_norm ?_
  refine wp_seq ?_
  refine wp_region_lit ?_
  refine seq_call rfl (fun Φ hΦ => by refine O_call0 rfl Tryd.func46 rfl rfl  hΦ) (model_New_w  (H := H)) ?_
  clear H
  rintro e w1 ⟨br10, rr10_lists, rr10_regs, rfl, H⟩; refine ⟨_, rfl, ?_⟩
  (try simp only [PT])
  apply seq_op (V := .pointer (some ⟨br10, 0, none⟩)) rfl
  · exact fun _ h => O_as rfl rfl h
  (try simp only [PT])
  refine list_end ?_
  refine then_norm ?_
  refine wp_seq ?_
  refine wp_region_lit ?_
  refine OpG.list rfl ?_; refine F_make (K := kcI) (V := vcB) 183 rfl H ?_; clear H; intro r10 w1 H
  (try simp only [PT])
  apply seq_op (V := .map (some r10)) rfl
  · exact fun _ h => O_as rfl rfl h
  (try simp only [PT])
  refine list_end ?_
  refine then_norm ?_
  refine wp_seq ?_
  refine wp_seq ?_
  refine wp_region_lit ?_
  apply seq_op (V := .slice A_p1 a1.length c_p1) rfl
  · exact fun _ h => O_mv rfl rfl h
  (try simp only [PT])
  apply seq_op (V := .int .i64 (a1.length : Int)) rfl
  · exact fun _ h => O_len rfl Tryd.underlying27 rfl h
  (try simp only [PT])
  apply seq_op (V := .int .i64 0) rfl
  · exact fun _ h => O_mv rfl rfl h
  (try simp only [PT])
  refine list_end ?_
  refine then_norm ?_
  refine wp_block ?_
  obtain ⟨R4, hq4, hm⟩ := bs hm
  have hn4 := Nat.le_trans (len_le (d := kI) h_p1 (by decide)) (by decide : (140737488355328 : Nat) ≤ 9223372036854775807)
  refine wp_loopF [none, none, none, none, some 4, none, none, none, some 8, none, none, none, none, some 13, some 14, some 15, some 16, some 17, some 18, some 19, some 20, some 21, some 22, some 23, some 24, some 25, some 26, some 27, some 28, some 29, some 30, some 31, some 32, some 33, some 34, some 35, some 36, some 37, some 38, some 39, some 40, some 41, some 42, some 43, some 44, some 45, some 46, some 47, some 48] rfl (by simp) (fun f w => ∃ (k4 : Nat) (r4 : List Int) (y4_p0 : Int → Option Bool) (y4_c1_0 : ByteArray → Option (List Int)) (r_y4_c1_0 : Nat) (y4_c1_1 : ByteArray → Option Int) (r_y4_c1_1 : Nat), a1.drop k4 = r4 ∧ f 13 = .int .i64 (k4 : Int) ∧ model_Replay_l4 a0 k4 r4 y4_p0 y4_c1_0 y4_c1_1 = some R4 ∧ Holds E s (mpF kcI vcB r10 y4_p0 :: pt br10 (.cells #[.map (some r_y4_c1_0), .map (some r_y4_c1_1)] 91 (0, 0)) :: mpO kcS kI s r_y4_c1_0 y4_c1_0 :: mpF kcS vcI r_y4_c1_1 y4_c1_1 :: L) w) (fun f w => a1.length - (intOf (f 13)).toNat) ?_ ?_
  · exact ⟨0, a1, fnil, model_New_f.lists, rr10_lists, model_New_f.regs, rr10_regs, rfl, rfl, hq4, H⟩
  · clear H
    intro f w hI
    obtain ⟨k4, r4, y4_p0, y4_c1_0, r_y4_c1_0, y4_c1_1, r_y4_c1_1, hd4, hf13, hq4', H⟩ := hI
    clear hq4; have hq4 := hq4'; clear hq4'
    simp only [ovm, mixM]
    simp only [hf13]; clear hf13
    refine wp_seq ?_
    refine wp_region_lit ?_
    apply seq_op (V := .bool (decide ((k4 : Int) < (a1.length : Int)))) rfl
    · exact fun _ h => O_bin rfl rfl rfl eqg_int r_lss h
    (try simp only [PT])
    refine list_end ?_
    refine then_norm ?_
    refine wp_seq ?_
    refine wp_cond_split rfl (fun hc => ?_) (fun hc => ?_)
    · have hc1 := hc
      clear hc
      obtain ⟨x4, r4', rfl, hd4', hd4'', hl4⟩ := rng_t hd4 hc1
      rw [model_Replay_l4] at hq4
      refine wp_skip ?_
      refine then_norm ?_
      refine wp_seq ?_
      refine wp_block ?_
      refine wp_seq ?_
      obtain ⟨be1, oe1, rfl, hCe1, h0e1⟩ := kI_el h_p1 hd4'
      refine wp_region_lit ?_
      apply seq_op (V := .pointer (some ⟨be1, oe1 + k4 * 1, none⟩)) rfl
      · exact fun _ h => O_ix rfl Tryd.underlying27 (Tryd.sizeOf3 _) rfl rfl rfl hl4 h
      (try simp only [PT])
      apply seq_op (V := .int .i64 x4) rfl
      · exact fun _ h => G_s1 _ _ rfl (Tryd.isAgg3 _) rfl H hCe1 0 rfl rfl h
      (try simp only [PT])
      apply seq_op (V := .int .i64 x4) rfl
      · exact fun _ h => O_as rfl rfl h
      (try simp only [PT])
      refine list_end ?_
      refine then_norm ?_
      refine wp_seq ?_
      refine wp_seq ?_
      rcases Bool.eq_false_or_eq_true (decide (x4 < 0)) with hg1 | hg1
      · replace hq4 := ifT hg1 hq4
        refine wp_draw_P (k := 29) (sz := 49) [] [[]] [] [.int .i64 x4, .bool (decide (x4 < 0)), .bool (decide (x4 < 0)), undef, undef, undef, undef, .bool true, .bool true, undef, undef, undef, .bool true, .bool true, undef, undef, undef, undef, undef, undef, undef, undef, undef, undef, undef, undef, undef, undef, .bool true] [] [] mixed (by simp) rfl (by kernel_rfl) (by kernel_rfl) (by kernel_rfl) (by simp) rfl H (by simp only [List.take_succ_cons, List.take_zero]; exact rfl) (by simp only [List.drop_succ_cons, List.drop_zero]; exact rfl)
          (fun x => by simp only [ov, Act.put, List.setIfInBounds_toArray, List.set_cons_succ, List.set_cons_zero, Nat.zero_add, Nat.reduceAdd]; exact rfl) ?_ ?_ ?_ ?_
        · refine ⟨?_, trivial⟩
          · intro w x hS; have H : Holds E s (mpF kcI vcB r10 y4_p0 :: pt br10 (.cells #[.map (some r_y4_c1_0), .map (some r_y4_c1_1)] 91 (0, 0)) :: mpO kcS kI s r_y4_c1_0 y4_c1_0 :: mpF kcS vcI r_y4_c1_1 y4_c1_1 :: L) w := hS; exact ⟨_, _, Sub.refl _, H⟩
        · refine ⟨?_, ?_, ?_, ?_, ?_, ?_, ?_, ?_, ?_, ?_, ?_, ?_, ?_, ?_, ?_, ?_, ?_, ?_, ?_, ?_, ?_, ?_, ?_, ?_, ?_, ?_, ?_, ?_, ?_, trivial⟩
          · refine .inr ?_; intro s' R w' x Φ hs H hx hΦ; refine wantG rfl ?_; refine O_mv rfl rfl ?_; exact hΦ
          · refine .inr ?_; intro s' R w' x Φ hs H hx hΦ; have e0 : x 0 = .int .i64 x4 := hx 0 (by decide) (by decide); simp only [e0]; refine wantG rfl ?_; refine O_bin rfl rfl rfl eqg_int r_lss ?_; exact hΦ
          · refine .inr ?_; intro s' R w' x Φ hs H hx hΦ; have e1 : x 1 = .bool (decide (x4 < 0)) := hx 1 (by decide) (by decide); simp only [e1]; refine wantG rfl ?_; refine O_mv rfl rfl ?_; exact hΦ
          · refine .inr ?_; intro s' R w' x Φ hs H hx hΦ; have e2 : x 2 = .bool (decide (x4 < 0)) := hx 2 (by decide) (by decide); simp only [e2]; refine wantU ((wanted_f rfl rfl rfl).trans (congrArg not hg1)) ?_; exact hΦ
          · refine .inr ?_; intro s' R w' x Φ hs H hx hΦ; have e2 : x 2 = .bool (decide (x4 < 0)) := hx 2 (by decide) (by decide); simp only [e2]; refine wantU ((wanted_f rfl rfl rfl).trans (congrArg not hg1)) ?_; exact hΦ
          · refine .inr ?_; intro s' R w' x Φ hs H hx hΦ; have e2 : x 2 = .bool (decide (x4 < 0)) := hx 2 (by decide) (by decide); simp only [e2]; refine wantU ((wanted_f rfl rfl rfl).trans (congrArg not hg1)) ?_; exact hΦ
          · refine .inr ?_; intro s' R w' x Φ hs H hx hΦ; have e2 : x 2 = .bool (decide (x4 < 0)) := hx 2 (by decide) (by decide); simp only [e2]; refine wantU ((wanted_f rfl rfl rfl).trans (congrArg not hg1)) ?_; exact hΦ
          · refine .inr ?_; intro s' R w' x Φ hs H hx hΦ; have e2 : x 2 = .bool (decide (x4 < 0)) := hx 2 (by decide) (by decide); have e6 : x 6 = undef := hx 6 (by decide) (by decide); simp only [e2, e6]; refine wantG rfl ?_; refine O_pickT rfl rfl hg1 rfl ?_; exact hΦ
          · refine .inr ?_; intro s' R w' x Φ hs H hx hΦ; have e7 : x 7 = .bool true := hx 7 (by decide) (by decide); simp only [e7]; refine wantG rfl ?_; refine O_mv rfl rfl ?_; exact hΦ
          · refine .inr ?_; intro s' R w' x Φ hs H hx hΦ; have e8 : x 8 = .bool true := hx 8 (by decide) (by decide); simp only [e8]; refine wantU ((wanted_f rfl rfl rfl).trans (congrArg not rfl)) ?_; exact hΦ
          · refine .inr ?_; intro s' R w' x Φ hs H hx hΦ; have e8 : x 8 = .bool true := hx 8 (by decide) (by decide); simp only [e8]; refine wantU ((wanted_f rfl rfl rfl).trans (congrArg not rfl)) ?_; exact hΦ
          · refine .inr ?_; intro s' R w' x Φ hs H hx hΦ; have e8 : x 8 = .bool true := hx 8 (by decide) (by decide); simp only [e8]; refine wantU ((wanted_f rfl rfl rfl).trans (congrArg not rfl)) ?_; exact hΦ
          · refine .inr ?_; intro s' R w' x Φ hs H hx hΦ; have e8 : x 8 = .bool true := hx 8 (by decide) (by decide); have e11 : x 11 = undef := hx 11 (by decide) (by decide); simp only [e8, e11]; refine wantG rfl ?_; refine O_pickT rfl rfl rfl rfl ?_; exact hΦ
          · refine .inr ?_; intro s' R w' x Φ hs H hx hΦ; have e12 : x 12 = .bool true := hx 12 (by decide) (by decide); simp only [e12]; refine wantG rfl ?_; refine O_mv rfl rfl ?_; exact hΦ
          · refine .inr ?_; intro s' R w' x Φ hs H hx hΦ; have e13 : x 13 = .bool true := hx 13 (by decide) (by decide); simp only [e13]; refine wantU ((wanted_f rfl rfl rfl).trans (congrArg not rfl)) ?_; exact hΦ
          · refine .inr ?_; intro s' R w' x Φ hs H hx hΦ; have e13 : x 13 = .bool true := hx 13 (by decide) (by decide); simp only [e13]; refine wantU ((wanted_f rfl rfl rfl).trans (congrArg not rfl)) ?_; exact hΦ
          · refine .inr ?_; intro s' R w' x Φ hs H hx hΦ; have e13 : x 13 = .bool true := hx 13 (by decide) (by decide); simp only [e13]; refine wantU ((wanted_f rfl rfl rfl).trans (congrArg not rfl)) ?_; exact hΦ
          · refine .inr ?_; intro s' R w' x Φ hs H hx hΦ; have e13 : x 13 = .bool true := hx 13 (by decide) (by decide); simp only [e13]; refine wantU ((wanted_f rfl rfl rfl).trans (congrArg not rfl)) ?_; exact hΦ
          · refine .inr ?_; intro s' R w' x Φ hs H hx hΦ; have e13 : x 13 = .bool true := hx 13 (by decide) (by decide); simp only [e13]; refine wantU ((wanted_f rfl rfl rfl).trans (congrArg not rfl)) ?_; exact hΦ
          · refine .inr ?_; intro s' R w' x Φ hs H hx hΦ; have e13 : x 13 = .bool true := hx 13 (by decide) (by decide); simp only [e13]; refine wantU ((wanted_f rfl rfl rfl).trans (congrArg not rfl)) ?_; exact hΦ
          · refine .inr ?_; intro s' R w' x Φ hs H hx hΦ; have e13 : x 13 = .bool true := hx 13 (by decide) (by decide); simp only [e13]; refine wantU ((wanted_f rfl rfl rfl).trans (congrArg not rfl)) ?_; exact hΦ
          · refine .inr ?_; intro s' R w' x Φ hs H hx hΦ; have e13 : x 13 = .bool true := hx 13 (by decide) (by decide); simp only [e13]; refine wantU ((wanted_f rfl rfl rfl).trans (congrArg not rfl)) ?_; exact hΦ
          · refine .inr ?_; intro s' R w' x Φ hs H hx hΦ; have e13 : x 13 = .bool true := hx 13 (by decide) (by decide); simp only [e13]; refine wantU ((wanted_f rfl rfl rfl).trans (congrArg not rfl)) ?_; exact hΦ
          · refine .inr ?_; intro s' R w' x Φ hs H hx hΦ; have e13 : x 13 = .bool true := hx 13 (by decide) (by decide); simp only [e13]; refine wantU ((wanted_f rfl rfl rfl).trans (congrArg not rfl)) ?_; exact hΦ
          · refine .inr ?_; intro s' R w' x Φ hs H hx hΦ; have e13 : x 13 = .bool true := hx 13 (by decide) (by decide); simp only [e13]; refine wantU ((wanted_f rfl rfl rfl).trans (congrArg not rfl)) ?_; exact hΦ
          · refine .inr ?_; intro s' R w' x Φ hs H hx hΦ; have e13 : x 13 = .bool true := hx 13 (by decide) (by decide); simp only [e13]; refine wantU ((wanted_f rfl rfl rfl).trans (congrArg not rfl)) ?_; exact hΦ
          · refine .inr ?_; intro s' R w' x Φ hs H hx hΦ; have e13 : x 13 = .bool true := hx 13 (by decide) (by decide); simp only [e13]; refine wantU ((wanted_f rfl rfl rfl).trans (congrArg not rfl)) ?_; exact hΦ
          · refine .inr ?_; intro s' R w' x Φ hs H hx hΦ; have e13 : x 13 = .bool true := hx 13 (by decide) (by decide); simp only [e13]; refine wantU ((wanted_f rfl rfl rfl).trans (congrArg not rfl)) ?_; exact hΦ
          · refine .inr ?_; intro s' R w' x Φ hs H hx hΦ; have e13 : x 13 = .bool true := hx 13 (by decide) (by decide); have e27 : x 27 = undef := hx 27 (by decide) (by decide); simp only [e13, e27]; refine wantG rfl ?_; refine O_pickT rfl rfl rfl rfl ?_; exact hΦ
        · exact trivial
        · clear H
          intro w' x hS hx
          have H : Holds E s (mpF kcI vcB r10 y4_p0 :: pt br10 (.cells #[.map (some r_y4_c1_0), .map (some r_y4_c1_1)] 91 (0, 0)) :: mpO kcS kI s r_y4_c1_0 y4_c1_0 :: mpF kcS vcI r_y4_c1_1 y4_c1_1 :: L) w' := hS; clear hS
          have e0 : x 0 = .int .i64 x4 := hx 0 (by decide) (by decide)
          have e1 : x 1 = .bool (decide (x4 < 0)) := hx 1 (by decide) (by decide)
          have e2 : x 2 = .bool (decide (x4 < 0)) := hx 2 (by decide) (by decide)
          have e3 : x 3 = undef := hx 3 (by decide) (by decide)
          have e4 : x 4 = undef := hx 4 (by decide) (by decide)
          have e5 : x 5 = undef := hx 5 (by decide) (by decide)
          have e6 : x 6 = undef := hx 6 (by decide) (by decide)
          have e7 : x 7 = .bool true := hx 7 (by decide) (by decide)
          have e8 : x 8 = .bool true := hx 8 (by decide) (by decide)
          have e9 : x 9 = undef := hx 9 (by decide) (by decide)
          have e10 : x 10 = undef := hx 10 (by decide) (by decide)
          have e11 : x 11 = undef := hx 11 (by decide) (by decide)
          have e12 : x 12 = .bool true := hx 12 (by decide) (by decide)
          have e13 : x 13 = .bool true := hx 13 (by decide) (by decide)
          have e14 : x 14 = undef := hx 14 (by decide) (by decide)
          have e15 : x 15 = undef := hx 15 (by decide) (by decide)
          have e16 : x 16 = undef := hx 16 (by decide) (by decide)
          have e17 : x 17 = undef := hx 17 (by decide) (by decide)
          have e18 : x 18 = undef := hx 18 (by decide) (by decide)
          have e19 : x 19 = undef := hx 19 (by decide) (by decide)
          have e20 : x 20 = undef := hx 20 (by decide) (by decide)
          have e21 : x 21 = undef := hx 21 (by decide) (by decide)
          have e22 : x 22 = undef := hx 22 (by decide) (by decide)
          have e23 : x 23 = undef := hx 23 (by decide) (by decide)
          have e24 : x 24 = undef := hx 24 (by decide) (by decide)
          have e25 : x 25 = undef := hx 25 (by decide) (by decide)
          have e26 : x 26 = undef := hx 26 (by decide) (by decide)
          have e27 : x 27 = undef := hx 27 (by decide) (by decide)
          have e28 : x 28 = .bool true := hx 28 (by decide) (by decide)
          simp only [e0, e1, e2, e3, e4, e5, e6, e7, e8, e9, e10, e11, e12, e13, e14, e15, e16, e17, e18, e19, e20, e21, e22, e23, e24, e25, e26, e27, e28]
          clear hx
          refine list_end ?_
          refine then_norm ?_
          refine wp_cond_true rfl ?_
          refine wp_seq ?_
          refine wp_region_lit ?_
          apply seq_op (V := .bool false) rfl
          · exact fun _ h => O_as rfl rfl h
          (try simp only [PT])
          refine list_end ?_
          refine then_norm ?_
          refine wp_ret ?_
          refine then_ret ?_
          refine block_ret ?_
          refine then_ret ?_
          refine then_ret ?_
          refine block_ret ?_
          refine then_ret ?_
          have hq4 := Option.some.inj hq4
          subst hq4
          (try dsimp only at hm)
          have hm := Option.some.inj hm
          subst hm
          replace H := H.dropAt 3 rfl; simp only [List.eraseIdx_cons_succ, List.eraseIdx_cons_zero] at H
          replace H := H.dropAt 2 rfl; simp only [List.eraseIdx_cons_succ, List.eraseIdx_cons_zero] at H
          replace H := H.dropAt 1 rfl; simp only [List.eraseIdx_cons_succ, List.eraseIdx_cons_zero] at H
          replace H := H.dropAt 0 rfl; simp only [List.eraseIdx_cons_succ, List.eraseIdx_cons_zero] at H
          exact ret1 rfl (rv_tmp rfl) rfl ⟨rfl, H⟩
      · replace hq4 := ifF hg1 hq4
        rcases Bool.eq_false_or_eq_true (decide (x4 ≥ (a0.length : Int))) with hg2 | hg2
        · replace hq4 := ifT hg2 hq4
          refine wp_draw_P (k := 29) (sz := 49) [] [[]] [] [.int .i64 x4, .bool (decide (x4 < 0)), .bool (decide (x4 < 0)), .int .i64 x4, .slice A_p0 a0.length c_p0, .int .i64 (a0.length : Int), .bool (decide (x4 ≥ (a0.length : Int))), .bool (decide (x4 ≥ (a0.length : Int))), .bool (decide (x4 ≥ (a0.length : Int))), undef, undef, undef, .bool true, .bool true, undef, undef, undef, undef, undef, undef, undef, undef, undef, undef, undef, undef, undef, undef, .bool true] [] [] mixed (by simp) rfl (by kernel_rfl) (by kernel_rfl) (by kernel_rfl) (by simp) rfl H (by simp only [List.take_succ_cons, List.take_zero]; exact rfl) (by simp only [List.drop_succ_cons, List.drop_zero]; exact rfl)
            (fun x => by simp only [ov, Act.put, List.setIfInBounds_toArray, List.set_cons_succ, List.set_cons_zero, Nat.zero_add, Nat.reduceAdd]; exact rfl) ?_ ?_ ?_ ?_
          · refine ⟨?_, trivial⟩
            · intro w x hS; have H : Holds E s (mpF kcI vcB r10 y4_p0 :: pt br10 (.cells #[.map (some r_y4_c1_0), .map (some r_y4_c1_1)] 91 (0, 0)) :: mpO kcS kI s r_y4_c1_0 y4_c1_0 :: mpF kcS vcI r_y4_c1_1 y4_c1_1 :: L) w := hS; exact ⟨_, _, Sub.refl _, H⟩
          · refine ⟨?_, ?_, ?_, ?_, ?_, ?_, ?_, ?_, ?_, ?_, ?_, ?_, ?_, ?_, ?_, ?_, ?_, ?_, ?_, ?_, ?_, ?_, ?_, ?_, ?_, ?_, ?_, ?_, ?_, trivial⟩
            · refine .inr ?_; intro s' R w' x Φ hs H hx hΦ; refine wantG rfl ?_; refine O_mv rfl rfl ?_; exact hΦ
            · refine .inr ?_; intro s' R w' x Φ hs H hx hΦ; have e0 : x 0 = .int .i64 x4 := hx 0 (by decide) (by decide); simp only [e0]; refine wantG rfl ?_; refine O_bin rfl rfl rfl eqg_int r_lss ?_; exact hΦ
            · refine .inr ?_; intro s' R w' x Φ hs H hx hΦ; have e1 : x 1 = .bool (decide (x4 < 0)) := hx 1 (by decide) (by decide); simp only [e1]; refine wantG rfl ?_; refine O_mv rfl rfl ?_; exact hΦ
            · refine .inr ?_; intro s' R w' x Φ hs H hx hΦ; have e2 : x 2 = .bool (decide (x4 < 0)) := hx 2 (by decide) (by decide); simp only [e2]; refine wantK ((wanted_f rfl rfl rfl).trans (congrArg not hg1)) ?_; refine O_mv rfl rfl ?_; exact hΦ
            · refine .inr ?_; intro s' R w' x Φ hs H hx hΦ; have e2 : x 2 = .bool (decide (x4 < 0)) := hx 2 (by decide) (by decide); simp only [e2]; refine wantK ((wanted_f rfl rfl rfl).trans (congrArg not hg1)) ?_; refine O_mv rfl rfl ?_; exact hΦ
            · refine .inr ?_; intro s' R w' x Φ hs H hx hΦ; have e2 : x 2 = .bool (decide (x4 < 0)) := hx 2 (by decide) (by decide); have e4 : x 4 = .slice A_p0 a0.length c_p0 := hx 4 (by decide) (by decide); simp only [e2, e4]; refine wantK ((wanted_f rfl rfl rfl).trans (congrArg not hg1)) ?_; refine O_len rfl Tryd.underlying57 rfl ?_; exact hΦ
            · refine .inr ?_; intro s' R w' x Φ hs H hx hΦ; have e2 : x 2 = .bool (decide (x4 < 0)) := hx 2 (by decide) (by decide); have e3 : x 3 = .int .i64 x4 := hx 3 (by decide) (by decide); have e5 : x 5 = .int .i64 (a0.length : Int) := hx 5 (by decide) (by decide); simp only [e2, e3, e5]; refine wantK ((wanted_f rfl rfl rfl).trans (congrArg not hg1)) ?_; refine O_bin rfl rfl rfl eqg_int r_geq ?_; exact hΦ
            · refine .inr ?_; intro s' R w' x Φ hs H hx hΦ; have e2 : x 2 = .bool (decide (x4 < 0)) := hx 2 (by decide) (by decide); have e6 : x 6 = .bool (decide (x4 ≥ (a0.length : Int))) := hx 6 (by decide) (by decide); simp only [e2, e6]; refine wantG rfl ?_; refine O_pickF rfl rfl hg1 rfl ?_; exact hΦ
            · refine .inr ?_; intro s' R w' x Φ hs H hx hΦ; have e7 : x 7 = .bool (decide (x4 ≥ (a0.length : Int))) := hx 7 (by decide) (by decide); simp only [e7]; refine wantG rfl ?_; refine O_mv rfl rfl ?_; exact hΦ
            · refine .inr ?_; intro s' R w' x Φ hs H hx hΦ; have e8 : x 8 = .bool (decide (x4 ≥ (a0.length : Int))) := hx 8 (by decide) (by decide); simp only [e8]; refine wantU ((wanted_f rfl rfl rfl).trans (congrArg not hg2)) ?_; exact hΦ
            · refine .inr ?_; intro s' R w' x Φ hs H hx hΦ; have e8 : x 8 = .bool (decide (x4 ≥ (a0.length : Int))) := hx 8 (by decide) (by decide); simp only [e8]; refine wantU ((wanted_f rfl rfl rfl).trans (congrArg not hg2)) ?_; exact hΦ
            · refine .inr ?_; intro s' R w' x Φ hs H hx hΦ; have e8 : x 8 = .bool (decide (x4 ≥ (a0.length : Int))) := hx 8 (by decide) (by decide); simp only [e8]; refine wantU ((wanted_f rfl rfl rfl).trans (congrArg not hg2)) ?_; exact hΦ
            · refine .inr ?_; intro s' R w' x Φ hs H hx hΦ; have e8 : x 8 = .bool (decide (x4 ≥ (a0.length : Int))) := hx 8 (by decide) (by decide); have e11 : x 11 = undef := hx 11 (by decide) (by decide); simp only [e8, e11]; refine wantG rfl ?_; refine O_pickT rfl rfl hg2 rfl ?_; exact hΦ
            · refine .inr ?_; intro s' R w' x Φ hs H hx hΦ; have e12 : x 12 = .bool true := hx 12 (by decide) (by decide); simp only [e12]; refine wantG rfl ?_; refine O_mv rfl rfl ?_; exact hΦ
            · refine .inr ?_; intro s' R w' x Φ hs H hx hΦ; have e13 : x 13 = .bool true := hx 13 (by decide) (by decide); simp only [e13]; refine wantU ((wanted_f rfl rfl rfl).trans (congrArg not rfl)) ?_; exact hΦ
            · refine .inr ?_; intro s' R w' x Φ hs H hx hΦ; have e13 : x 13 = .bool true := hx 13 (by decide) (by decide); simp only [e13]; refine wantU ((wanted_f rfl rfl rfl).trans (congrArg not rfl)) ?_; exact hΦ
            · refine .inr ?_; intro s' R w' x Φ hs H hx hΦ; have e13 : x 13 = .bool true := hx 13 (by decide) (by decide); simp only [e13]; refine wantU ((wanted_f rfl rfl rfl).trans (congrArg not rfl)) ?_; exact hΦ
            · refine .inr ?_; intro s' R w' x Φ hs H hx hΦ; have e13 : x 13 = .bool true := hx 13 (by decide) (by decide); simp only [e13]; refine wantU ((wanted_f rfl rfl rfl).trans (congrArg not rfl)) ?_; exact hΦ
            · refine .inr ?_; intro s' R w' x Φ hs H hx hΦ; have e13 : x 13 = .bool true := hx 13 (by decide) (by decide); simp only [e13]; refine wantU ((wanted_f rfl rfl rfl).trans (congrArg not rfl)) ?_; exact hΦ
            · refine .inr ?_; intro s' R w' x Φ hs H hx hΦ; have e13 : x 13 = .bool true := hx 13 (by decide) (by decide); simp only [e13]; refine wantU ((wanted_f rfl rfl rfl).trans (congrArg not rfl)) ?_; exact hΦ
            · refine .inr ?_; intro s' R w' x Φ hs H hx hΦ; have e13 : x 13 = .bool true := hx 13 (by decide) (by decide); simp only [e13]; refine wantU ((wanted_f rfl rfl rfl).trans (congrArg not rfl)) ?_; exact hΦ
            · refine .inr ?_; intro s' R w' x Φ hs H hx hΦ; have e13 : x 13 = .bool true := hx 13 (by decide) (by decide); simp only [e13]; refine wantU ((wanted_f rfl rfl rfl).trans (congrArg not rfl)) ?_; exact hΦ
            · refine .inr ?_; intro s' R w' x Φ hs H hx hΦ; have e13 : x 13 = .bool true := hx 13 (by decide) (by decide); simp only [e13]; refine wantU ((wanted_f rfl rfl rfl).trans (congrArg not rfl)) ?_; exact hΦ
            · refine .inr ?_; intro s' R w' x Φ hs H hx hΦ; have e13 : x 13 = .bool true := hx 13 (by decide) (by decide); simp only [e13]; refine wantU ((wanted_f rfl rfl rfl).trans (congrArg not rfl)) ?_; exact hΦ
            · refine .inr ?_; intro s' R w' x Φ hs H hx hΦ; have e13 : x 13 = .bool true := hx 13 (by decide) (by decide); simp only [e13]; refine wantU ((wanted_f rfl rfl rfl).trans (congrArg not rfl)) ?_; exact hΦ
            · refine .inr ?_; intro s' R w' x Φ hs H hx hΦ; have e13 : x 13 = .bool true := hx 13 (by decide) (by decide); simp only [e13]; refine wantU ((wanted_f rfl rfl rfl).trans (congrArg not rfl)) ?_; exact hΦ
            · refine .inr ?_; intro s' R w' x Φ hs H hx hΦ; have e13 : x 13 = .bool true := hx 13 (by decide) (by decide); simp only [e13]; refine wantU ((wanted_f rfl rfl rfl).trans (congrArg not rfl)) ?_; exact hΦ
            · refine .inr ?_; intro s' R w' x Φ hs H hx hΦ; have e13 : x 13 = .bool true := hx 13 (by decide) (by decide); simp only [e13]; refine wantU ((wanted_f rfl rfl rfl).trans (congrArg not rfl)) ?_; exact hΦ
            · refine .inr ?_; intro s' R w' x Φ hs H hx hΦ; have e13 : x 13 = .bool true := hx 13 (by decide) (by decide); have e27 : x 27 = undef := hx 27 (by decide) (by decide); simp only [e13, e27]; refine wantG rfl ?_; refine O_pickT rfl rfl rfl rfl ?_; exact hΦ
          · exact trivial
          · clear H
            intro w' x hS hx
            have H : Holds E s (mpF kcI vcB r10 y4_p0 :: pt br10 (.cells #[.map (some r_y4_c1_0), .map (some r_y4_c1_1)] 91 (0, 0)) :: mpO kcS kI s r_y4_c1_0 y4_c1_0 :: mpF kcS vcI r_y4_c1_1 y4_c1_1 :: L) w' := hS; clear hS
            have e0 : x 0 = .int .i64 x4 := hx 0 (by decide) (by decide)
            have e1 : x 1 = .bool (decide (x4 < 0)) := hx 1 (by decide) (by decide)
            have e2 : x 2 = .bool (decide (x4 < 0)) := hx 2 (by decide) (by decide)
            have e3 : x 3 = .int .i64 x4 := hx 3 (by decide) (by decide)
            have e4 : x 4 = .slice A_p0 a0.length c_p0 := hx 4 (by decide) (by decide)
            have e5 : x 5 = .int .i64 (a0.length : Int) := hx 5 (by decide) (by decide)
            have e6 : x 6 = .bool (decide (x4 ≥ (a0.length : Int))) := hx 6 (by decide) (by decide)
            have e7 : x 7 = .bool (decide (x4 ≥ (a0.length : Int))) := hx 7 (by decide) (by decide)
            have e8 : x 8 = .bool (decide (x4 ≥ (a0.length : Int))) := hx 8 (by decide) (by decide)
            have e9 : x 9 = undef := hx 9 (by decide) (by decide)
            have e10 : x 10 = undef := hx 10 (by decide) (by decide)
            have e11 : x 11 = undef := hx 11 (by decide) (by decide)
            have e12 : x 12 = .bool true := hx 12 (by decide) (by decide)
            have e13 : x 13 = .bool true := hx 13 (by decide) (by decide)
            have e14 : x 14 = undef := hx 14 (by decide) (by decide)
            have e15 : x 15 = undef := hx 15 (by decide) (by decide)
            have e16 : x 16 = undef := hx 16 (by decide) (by decide)
            have e17 : x 17 = undef := hx 17 (by decide) (by decide)
            have e18 : x 18 = undef := hx 18 (by decide) (by decide)
            have e19 : x 19 = undef := hx 19 (by decide) (by decide)
            have e20 : x 20 = undef := hx 20 (by decide) (by decide)
            have e21 : x 21 = undef := hx 21 (by decide) (by decide)
            have e22 : x 22 = undef := hx 22 (by decide) (by decide)
            have e23 : x 23 = undef := hx 23 (by decide) (by decide)
            have e24 : x 24 = undef := hx 24 (by decide) (by decide)
            have e25 : x 25 = undef := hx 25 (by decide) (by decide)
            have e26 : x 26 = undef := hx 26 (by decide) (by decide)
            have e27 : x 27 = undef := hx 27 (by decide) (by decide)
            have e28 : x 28 = .bool true := hx 28 (by decide) (by decide)
            simp only [e0, e1, e2, e3, e4, e5, e6, e7, e8, e9, e10, e11, e12, e13, e14, e15, e16, e17, e18, e19, e20, e21, e22, e23, e24, e25, e26, e27, e28]
            clear hx
            refine list_end ?_
            refine then_norm ?_
            refine wp_cond_true rfl ?_
            refine wp_seq ?_
            refine wp_region_lit ?_
            apply seq_op (V := .bool false) rfl
            · exact fun _ h => O_as rfl rfl h
            (try simp only [PT])
            refine list_end ?_
            refine then_norm ?_
            refine wp_ret ?_
            refine then_ret ?_
            refine block_ret ?_
            refine then_ret ?_
            refine then_ret ?_
            refine block_ret ?_
            refine then_ret ?_
            have hq4 := Option.some.inj hq4
            subst hq4
            (try dsimp only at hm)
            have hm := Option.some.inj hm
            subst hm
            replace H := H.dropAt 3 rfl; simp only [List.eraseIdx_cons_succ, List.eraseIdx_cons_zero] at H
            replace H := H.dropAt 2 rfl; simp only [List.eraseIdx_cons_succ, List.eraseIdx_cons_zero] at H
            replace H := H.dropAt 1 rfl; simp only [List.eraseIdx_cons_succ, List.eraseIdx_cons_zero] at H
            replace H := H.dropAt 0 rfl; simp only [List.eraseIdx_cons_succ, List.eraseIdx_cons_zero] at H
            exact ret1 rfl (rv_tmp rfl) rfl ⟨rfl, H⟩
        · replace hq4 := ifF hg2 hq4
          rcases Bool.eq_false_or_eq_true ((y4_p0 x4).getD false) with hg3 | hg3
          · replace hq4 := ifT hg3 hq4
            refine wp_draw_P (k := 29) (sz := 49) [] [[]] [] [.int .i64 x4, .bool (decide (x4 < 0)), .bool (decide (x4 < 0)), .int .i64 x4, .slice A_p0 a0.length c_p0, .int .i64 (a0.length : Int), .bool (decide (x4 ≥ (a0.length : Int))), .bool (decide (x4 ≥ (a0.length : Int))), .bool (decide (x4 ≥ (a0.length : Int))), .map (some r10), .int .i64 x4, .bool ((y4_p0 x4).getD false), .bool ((y4_p0 x4).getD false), .bool ((y4_p0 x4).getD false), undef, undef, undef, undef, undef, undef, undef, undef, undef, undef, undef, undef, undef, undef, .bool true] [mpF kcI vcB r10 y4_p0] [] mixed (by simp) rfl (by kernel_rfl) (by kernel_rfl) (by kernel_rfl) (by simp) rfl H (by simp only [List.take_succ_cons, List.take_zero]; exact rfl) (by simp only [List.drop_succ_cons, List.drop_zero]; exact rfl)
              (fun x => by simp only [ov, Act.put, List.setIfInBounds_toArray, List.set_cons_succ, List.set_cons_zero, Nat.zero_add, Nat.reduceAdd]; exact rfl) ?_ ?_ ?_ ?_
            · refine ⟨?_, trivial⟩
              · intro w x hS; have H : Holds E s (mpF kcI vcB r10 y4_p0 :: pt br10 (.cells #[.map (some r_y4_c1_0), .map (some r_y4_c1_1)] 91 (0, 0)) :: mpO kcS kI s r_y4_c1_0 y4_c1_0 :: mpF kcS vcI r_y4_c1_1 y4_c1_1 :: L) w := hS; exact ⟨_, _, Sub.refl _, H⟩
            · refine ⟨?_, ?_, ?_, ?_, ?_, ?_, ?_, ?_, ?_, ?_, ?_, ?_, ?_, ?_, ?_, ?_, ?_, ?_, ?_, ?_, ?_, ?_, ?_, ?_, ?_, ?_, ?_, ?_, ?_, trivial⟩
              · refine .inr ?_; intro s' R w' x Φ hs H hx hΦ; refine wantG rfl ?_; refine O_mv rfl rfl ?_; exact hΦ
              · refine .inr ?_; intro s' R w' x Φ hs H hx hΦ; have e0 : x 0 = .int .i64 x4 := hx 0 (by decide) (by decide); simp only [e0]; refine wantG rfl ?_; refine O_bin rfl rfl rfl eqg_int r_lss ?_; exact hΦ
              · refine .inr ?_; intro s' R w' x Φ hs H hx hΦ; have e1 : x 1 = .bool (decide (x4 < 0)) := hx 1 (by decide) (by decide); simp only [e1]; refine wantG rfl ?_; refine O_mv rfl rfl ?_; exact hΦ
              · refine .inr ?_; intro s' R w' x Φ hs H hx hΦ; have e2 : x 2 = .bool (decide (x4 < 0)) := hx 2 (by decide) (by decide); simp only [e2]; refine wantK ((wanted_f rfl rfl rfl).trans (congrArg not hg1)) ?_; refine O_mv rfl rfl ?_; exact hΦ
              · refine .inr ?_; intro s' R w' x Φ hs H hx hΦ; have e2 : x 2 = .bool (decide (x4 < 0)) := hx 2 (by decide) (by decide); simp only [e2]; refine wantK ((wanted_f rfl rfl rfl).trans (congrArg not hg1)) ?_; refine O_mv rfl rfl ?_; exact hΦ
              · refine .inr ?_; intro s' R w' x Φ hs H hx hΦ; have e2 : x 2 = .bool (decide (x4 < 0)) := hx 2 (by decide) (by decide); have e4 : x 4 = .slice A_p0 a0.length c_p0 := hx 4 (by decide) (by decide); simp only [e2, e4]; refine wantK ((wanted_f rfl rfl rfl).trans (congrArg not hg1)) ?_; refine O_len rfl Tryd.underlying57 rfl ?_; exact hΦ
              · refine .inr ?_; intro s' R w' x Φ hs H hx hΦ; have e2 : x 2 = .bool (decide (x4 < 0)) := hx 2 (by decide) (by decide); have e3 : x 3 = .int .i64 x4 := hx 3 (by decide) (by decide); have e5 : x 5 = .int .i64 (a0.length : Int) := hx 5 (by decide) (by decide); simp only [e2, e3, e5]; refine wantK ((wanted_f rfl rfl rfl).trans (congrArg not hg1)) ?_; refine O_bin rfl rfl rfl eqg_int r_geq ?_; exact hΦ
              · refine .inr ?_; intro s' R w' x Φ hs H hx hΦ; have e2 : x 2 = .bool (decide (x4 < 0)) := hx 2 (by decide) (by decide); have e6 : x 6 = .bool (decide (x4 ≥ (a0.length : Int))) := hx 6 (by decide) (by decide); simp only [e2, e6]; refine wantG rfl ?_; refine O_pickF rfl rfl hg1 rfl ?_; exact hΦ
              · refine .inr ?_; intro s' R w' x Φ hs H hx hΦ; have e7 : x 7 = .bool (decide (x4 ≥ (a0.length : Int))) := hx 7 (by decide) (by decide); simp only [e7]; refine wantG rfl ?_; refine O_mv rfl rfl ?_; exact hΦ
              · refine .inr ?_; intro s' R w' x Φ hs H hx hΦ; have e8 : x 8 = .bool (decide (x4 ≥ (a0.length : Int))) := hx 8 (by decide) (by decide); simp only [e8]; refine wantK ((wanted_f rfl rfl rfl).trans (congrArg not hg2)) ?_; refine O_mv rfl rfl ?_; exact hΦ
              · refine .inr ?_; intro s' R w' x Φ hs H hx hΦ; have e8 : x 8 = .bool (decide (x4 ≥ (a0.length : Int))) := hx 8 (by decide) (by decide); simp only [e8]; refine wantK ((wanted_f rfl rfl rfl).trans (congrArg not hg2)) ?_; refine O_mv rfl rfl ?_; exact hΦ
              · refine .inr ?_; intro s' R w' x Φ hs H hx hΦ; have e8 : x 8 = .bool (decide (x4 ≥ (a0.length : Int))) := hx 8 (by decide) (by decide); have e9 : x 9 = .map (some r10) := hx 9 (by decide) (by decide); have e10 : x 10 = .int .i64 x4 := hx 10 (by decide) (by decide); simp only [e8, e9, e10]; refine wantK ((wanted_f rfl rfl rfl).trans (congrArg not hg2)) ?_; refine F_get mk_I 0 183 _ _ rfl Tryd.underlying183 (k := x4) h0e1 rfl rfl H rfl (Tryd.zeroValue4 _) ?_; exact hΦ
              · refine .inr ?_; intro s' R w' x Φ hs H hx hΦ; have e8 : x 8 = .bool (decide (x4 ≥ (a0.length : Int))) := hx 8 (by decide) (by decide); have e11 : x 11 = .bool ((y4_p0 x4).getD false) := hx 11 (by decide) (by decide); simp only [e8, e11]; refine wantG rfl ?_; refine O_pickF rfl rfl hg2 rfl ?_; exact hΦ
              · refine .inr ?_; intro s' R w' x Φ hs H hx hΦ; have e12 : x 12 = .bool ((y4_p0 x4).getD false) := hx 12 (by decide) (by decide); simp only [e12]; refine wantG rfl ?_; refine O_mv rfl rfl ?_; exact hΦ
              · refine .inr ?_; intro s' R w' x Φ hs H hx hΦ; have e13 : x 13 = .bool ((y4_p0 x4).getD false) := hx 13 (by decide) (by decide); simp only [e13]; refine wantU ((wanted_f rfl rfl rfl).trans (congrArg not hg3)) ?_; exact hΦ
              · refine .inr ?_; intro s' R w' x Φ hs H hx hΦ; have e13 : x 13 = .bool ((y4_p0 x4).getD false) := hx 13 (by decide) (by decide); simp only [e13]; refine wantU ((wanted_f rfl rfl rfl).trans (congrArg not hg3)) ?_; exact hΦ
              · refine .inr ?_; intro s' R w' x Φ hs H hx hΦ; have e13 : x 13 = .bool ((y4_p0 x4).getD false) := hx 13 (by decide) (by decide); simp only [e13]; refine wantU ((wanted_f rfl rfl rfl).trans (congrArg not hg3)) ?_; exact hΦ
              · refine .inr ?_; intro s' R w' x Φ hs H hx hΦ; have e13 : x 13 = .bool ((y4_p0 x4).getD false) := hx 13 (by decide) (by decide); simp only [e13]; refine wantU ((wanted_f rfl rfl rfl).trans (congrArg not hg3)) ?_; exact hΦ
              · refine .inr ?_; intro s' R w' x Φ hs H hx hΦ; have e13 : x 13 = .bool ((y4_p0 x4).getD false) := hx 13 (by decide) (by decide); simp only [e13]; refine wantU ((wanted_f rfl rfl rfl).trans (congrArg not hg3)) ?_; exact hΦ
              · refine .inr ?_; intro s' R w' x Φ hs H hx hΦ; have e13 : x 13 = .bool ((y4_p0 x4).getD false) := hx 13 (by decide) (by decide); simp only [e13]; refine wantU ((wanted_f rfl rfl rfl).trans (congrArg not hg3)) ?_; exact hΦ
              · refine .inr ?_; intro s' R w' x Φ hs H hx hΦ; have e13 : x 13 = .bool ((y4_p0 x4).getD false) := hx 13 (by decide) (by decide); simp only [e13]; refine wantU ((wanted_f rfl rfl rfl).trans (congrArg not hg3)) ?_; exact hΦ
              · refine .inr ?_; intro s' R w' x Φ hs H hx hΦ; have e13 : x 13 = .bool ((y4_p0 x4).getD false) := hx 13 (by decide) (by decide); simp only [e13]; refine wantU ((wanted_f rfl rfl rfl).trans (congrArg not hg3)) ?_; exact hΦ
              · refine .inr ?_; intro s' R w' x Φ hs H hx hΦ; have e13 : x 13 = .bool ((y4_p0 x4).getD false) := hx 13 (by decide) (by decide); simp only [e13]; refine wantU ((wanted_f rfl rfl rfl).trans (congrArg not hg3)) ?_; exact hΦ
              · refine .inr ?_; intro s' R w' x Φ hs H hx hΦ; have e13 : x 13 = .bool ((y4_p0 x4).getD false) := hx 13 (by decide) (by decide); simp only [e13]; refine wantU ((wanted_f rfl rfl rfl).trans (congrArg not hg3)) ?_; exact hΦ
              · refine .inr ?_; intro s' R w' x Φ hs H hx hΦ; have e13 : x 13 = .bool ((y4_p0 x4).getD false) := hx 13 (by decide) (by decide); simp only [e13]; refine wantU ((wanted_f rfl rfl rfl).trans (congrArg not hg3)) ?_; exact hΦ
              · refine .inr ?_; intro s' R w' x Φ hs H hx hΦ; have e13 : x 13 = .bool ((y4_p0 x4).getD false) := hx 13 (by decide) (by decide); simp only [e13]; refine wantU ((wanted_f rfl rfl rfl).trans (congrArg not hg3)) ?_; exact hΦ
              · refine .inr ?_; intro s' R w' x Φ hs H hx hΦ; have e13 : x 13 = .bool ((y4_p0 x4).getD false) := hx 13 (by decide) (by decide); simp only [e13]; refine wantU ((wanted_f rfl rfl rfl).trans (congrArg not hg3)) ?_; exact hΦ
              · refine .inr ?_; intro s' R w' x Φ hs H hx hΦ; have e13 : x 13 = .bool ((y4_p0 x4).getD false) := hx 13 (by decide) (by decide); simp only [e13]; refine wantU ((wanted_f rfl rfl rfl).trans (congrArg not hg3)) ?_; exact hΦ
              · refine .inr ?_; intro s' R w' x Φ hs H hx hΦ; have e13 : x 13 = .bool ((y4_p0 x4).getD false) := hx 13 (by decide) (by decide); have e27 : x 27 = undef := hx 27 (by decide) (by decide); simp only [e13, e27]; refine wantG rfl ?_; refine O_pickT rfl rfl hg3 rfl ?_; exact hΦ
            · exact trivial
            · clear H
              intro w' x hS hx
              have H : Holds E s (mpF kcI vcB r10 y4_p0 :: pt br10 (.cells #[.map (some r_y4_c1_0), .map (some r_y4_c1_1)] 91 (0, 0)) :: mpO kcS kI s r_y4_c1_0 y4_c1_0 :: mpF kcS vcI r_y4_c1_1 y4_c1_1 :: L) w' := hS; clear hS
              have e0 : x 0 = .int .i64 x4 := hx 0 (by decide) (by decide)
              have e1 : x 1 = .bool (decide (x4 < 0)) := hx 1 (by decide) (by decide)
              have e2 : x 2 = .bool (decide (x4 < 0)) := hx 2 (by decide) (by decide)
              have e3 : x 3 = .int .i64 x4 := hx 3 (by decide) (by decide)
              have e4 : x 4 = .slice A_p0 a0.length c_p0 := hx 4 (by decide) (by decide)
              have e5 : x 5 = .int .i64 (a0.length : Int) := hx 5 (by decide) (by decide)
              have e6 : x 6 = .bool (decide (x4 ≥ (a0.length : Int))) := hx 6 (by decide) (by decide)
              have e7 : x 7 = .bool (decide (x4 ≥ (a0.length : Int))) := hx 7 (by decide) (by decide)
              have e8 : x 8 = .bool (decide (x4 ≥ (a0.length : Int))) := hx 8 (by decide) (by decide)
              have e9 : x 9 = .map (some r10) := hx 9 (by decide) (by decide)
              have e10 : x 10 = .int .i64 x4 := hx 10 (by decide) (by decide)
              have e11 : x 11 = .bool ((y4_p0 x4).getD false) := hx 11 (by decide) (by decide)
              have e12 : x 12 = .bool ((y4_p0 x4).getD false) := hx 12 (by decide) (by decide)
              have e13 : x 13 = .bool ((y4_p0 x4).getD false) := hx 13 (by decide) (by decide)
              have e14 : x 14 = undef := hx 14 (by decide) (by decide)
              have e15 : x 15 = undef := hx 15 (by decide) (by decide)
              have e16 : x 16 = undef := hx 16 (by decide) (by decide)
              have e17 : x 17 = undef := hx 17 (by decide) (by decide)
              have e18 : x 18 = undef := hx 18 (by decide) (by decide)
              have e19 : x 19 = undef := hx 19 (by decide) (by decide)
              have e20 : x 20 = undef := hx 20 (by decide) (by decide)
              have e21 : x 21 = undef := hx 21 (by decide) (by decide)
              have e22 : x 22 = undef := hx 22 (by decide) (by decide)
              have e23 : x 23 = undef := hx 23 (by decide) (by decide)
              have e24 : x 24 = undef := hx 24 (by decide) (by decide)
              have e25 : x 25 = undef := hx 25 (by decide) (by decide)
              have e26 : x 26 = undef := hx 26 (by decide) (by decide)
              have e27 : x 27 = undef := hx 27 (by decide) (by decide)
              have e28 : x 28 = .bool true := hx 28 (by decide) (by decide)
              simp only [e0, e1, e2, e3, e4, e5, e6, e7, e8, e9, e10, e11, e12, e13, e14, e15, e16, e17, e18, e19, e20, e21, e22, e23, e24, e25, e26, e27, e28]
              clear hx
              refine list_end ?_
              refine then_norm ?_
              refine wp_cond_true rfl ?_
              refine wp_seq ?_
              refine wp_region_lit ?_
              apply seq_op (V := .bool false) rfl
              · exact fun _ h => O_as rfl rfl h
              (try simp only [PT])
              refine list_end ?_
              refine then_norm ?_
              refine wp_ret ?_
              refine then_ret ?_
              refine block_ret ?_
              refine then_ret ?_
              refine then_ret ?_
              refine block_ret ?_
              refine then_ret ?_
              have hq4 := Option.some.inj hq4
              subst hq4
              (try dsimp only at hm)
              have hm := Option.some.inj hm
              subst hm
              replace H := H.dropAt 3 rfl; simp only [List.eraseIdx_cons_succ, List.eraseIdx_cons_zero] at H
              replace H := H.dropAt 2 rfl; simp only [List.eraseIdx_cons_succ, List.eraseIdx_cons_zero] at H
              replace H := H.dropAt 1 rfl; simp only [List.eraseIdx_cons_succ, List.eraseIdx_cons_zero] at H
              replace H := H.dropAt 0 rfl; simp only [List.eraseIdx_cons_succ, List.eraseIdx_cons_zero] at H
              exact ret1 rfl (rv_tmp rfl) rfl ⟨rfl, H⟩
          · replace hq4 := ifF hg3 hq4
            obtain ⟨u1, gx1, hq4⟩ := bs hq4
            obtain ⟨kk1, gk1, gl1, gd1⟩ := rdI_some gx1
            obtain ⟨be2, oe2, A4e2, c4e2, rfl, hCe2, h0e2, h1e2, h2e2, h3e2, h4e2⟩ := kT_el h_p0 gd1
            obtain ⟨u38601, gx38601, hq4⟩ := bs hq4
            refine wp_draw_P (k := 29) (sz := 49) [26, 27, 28] [[false, false, false], [true, false, false], [true, true, false], [true, true, true]] [(0, 0, 1), (1, 1, 2), (2, 2, 3)] [.int .i64 x4, .bool (decide (x4 < 0)), .bool (decide (x4 < 0)), .int .i64 x4, .slice (some ⟨be2, oe2, none⟩) a0.length c_p0, .int .i64 (a0.length : Int), .bool (decide (x4 ≥ (a0.length : Int))), .bool (decide (x4 ≥ (a0.length : Int))), .bool (decide (x4 ≥ (a0.length : Int))), .map (some r10), .int .i64 x4, .bool ((y4_p0 x4).getD false), .bool ((y4_p0 x4).getD false), .bool ((y4_p0 x4).getD false), .pointer (some ⟨br10, 0, none⟩), .slice (some ⟨be2, oe2, none⟩) a0.length c_p0, .int .i64 x4, .pointer (some ⟨be2, oe2 + kk1 * 5, none⟩), .pointer (some ⟨be2, oe2 + kk1 * 5 + 4, none⟩), .slice A4e2 u1.ops.length c4e2, .slice (some ⟨be2, oe2, none⟩) a0.length c_p0, .int .i64 x4, .pointer (some ⟨be2, oe2 + kk1 * 5, none⟩), .pointer (some ⟨be2, oe2 + kk1 * 5 + 1, none⟩), .int .i64 u1.state, .bool (u1.state == 3), undef, undef, undef] [mpF kcI vcB r10 y4_p0] [fun w x => ∃ (rr38601o0_lists : Nat) (rr38601o0_regs : Nat), x 26 = .bool u38601.1 ∧ Holds E s (pt br10 (.cells #[.map (some rr38601o0_lists), .map (some rr38601o0_regs)] 91 (0, 0)) :: mpO kcS kI s rr38601o0_lists u38601.2.lists :: mpF kcS vcI rr38601o0_regs u38601.2.regs :: mpF kcI vcB r10 y4_p0 :: L) w, fun w x => ∃ (rr38601o0_lists : Nat) (rr38601o0_regs : Nat), x 26 = .bool u38601.1 ∧ x 27 = .bool (!u38601.1) ∧ Holds E s (pt br10 (.cells #[.map (some rr38601o0_lists), .map (some rr38601o0_regs)] 91 (0, 0)) :: mpO kcS kI s rr38601o0_lists u38601.2.lists :: mpF kcS vcI rr38601o0_regs u38601.2.regs :: mpF kcI vcB r10 y4_p0 :: L) w, fun w x => ∃ (rr38601o0_lists : Nat) (rr38601o0_regs : Nat), x 26 = .bool u38601.1 ∧ x 27 = .bool (!u38601.1) ∧ x 28 = .bool (!u38601.1) ∧ Holds E s (pt br10 (.cells #[.map (some rr38601o0_lists), .map (some rr38601o0_regs)] 91 (0, 0)) :: mpO kcS kI s rr38601o0_lists u38601.2.lists :: mpF kcS vcI rr38601o0_regs u38601.2.regs :: mpF kcI vcB r10 y4_p0 :: L) w] mixed (by simp) rfl (by kernel_rfl) (by kernel_rfl) (by kernel_rfl) (by simp) rfl H (by simp only [List.take_succ_cons, List.take_zero]; exact rfl) (by simp only [List.drop_succ_cons, List.drop_zero]; exact rfl)
              (fun x => by simp only [ov, Act.put, List.setIfInBounds_toArray, List.set_cons_succ, List.set_cons_zero, Nat.zero_add, Nat.reduceAdd]; exact rfl) ?_ ?_ ?_ ?_
            · refine ⟨?_, ?_, ?_, ?_, trivial⟩
              · intro w x hS; have H : Holds E s (mpF kcI vcB r10 y4_p0 :: pt br10 (.cells #[.map (some r_y4_c1_0), .map (some r_y4_c1_1)] 91 (0, 0)) :: mpO kcS kI s r_y4_c1_0 y4_c1_0 :: mpF kcS vcI r_y4_c1_1 y4_c1_1 :: L) w := hS; exact ⟨_, _, Sub.refl _, H⟩
              · intro w x hS; obtain ⟨rr38601o0_lists, rr38601o0_regs, e26, H⟩ := hS; replace H := H.front 3 rfl; simp only [List.eraseIdx_cons_succ, List.eraseIdx_cons_zero] at H; exact ⟨_, _, Sub.refl _, H⟩
              · intro w x hS; obtain ⟨rr38601o0_lists, rr38601o0_regs, e26, e27, H⟩ := hS; replace H := H.front 3 rfl; simp only [List.eraseIdx_cons_succ, List.eraseIdx_cons_zero] at H; exact ⟨_, _, Sub.refl _, H⟩
              · intro w x hS; obtain ⟨rr38601o0_lists, rr38601o0_regs, e26, e27, e28, H⟩ := hS; replace H := H.front 3 rfl; simp only [List.eraseIdx_cons_succ, List.eraseIdx_cons_zero] at H; exact ⟨_, _, Sub.refl _, H⟩
            · refine ⟨?_, ?_, ?_, ?_, ?_, ?_, ?_, ?_, ?_, ?_, ?_, ?_, ?_, ?_, ?_, ?_, ?_, ?_, ?_, ?_, ?_, ?_, ?_, ?_, ?_, ?_, ?_, ?_, ?_, trivial⟩
              · refine .inr ?_; intro s' R w' x Φ hs H hx hΦ; refine wantG rfl ?_; refine O_mv rfl rfl ?_; exact hΦ
              · refine .inr ?_; intro s' R w' x Φ hs H hx hΦ; have e0 : x 0 = .int .i64 x4 := hx 0 (by decide) (by decide); simp only [e0]; refine wantG rfl ?_; refine O_bin rfl rfl rfl eqg_int r_lss ?_; exact hΦ
              · refine .inr ?_; intro s' R w' x Φ hs H hx hΦ; have e1 : x 1 = .bool (decide (x4 < 0)) := hx 1 (by decide) (by decide); simp only [e1]; refine wantG rfl ?_; refine O_mv rfl rfl ?_; exact hΦ
              · refine .inr ?_; intro s' R w' x Φ hs H hx hΦ; have e2 : x 2 = .bool (decide (x4 < 0)) := hx 2 (by decide) (by decide); simp only [e2]; refine wantK ((wanted_f rfl rfl rfl).trans (congrArg not hg1)) ?_; refine O_mv rfl rfl ?_; exact hΦ
              · refine .inr ?_; intro s' R w' x Φ hs H hx hΦ; have e2 : x 2 = .bool (decide (x4 < 0)) := hx 2 (by decide) (by decide); simp only [e2]; refine wantK ((wanted_f rfl rfl rfl).trans (congrArg not hg1)) ?_; refine O_mv rfl rfl ?_; exact hΦ
              · refine .inr ?_; intro s' R w' x Φ hs H hx hΦ; have e2 : x 2 = .bool (decide (x4 < 0)) := hx 2 (by decide) (by decide); have e4 : x 4 = .slice (some ⟨be2, oe2, none⟩) a0.length c_p0 := hx 4 (by decide) (by decide); simp only [e2, e4]; refine wantK ((wanted_f rfl rfl rfl).trans (congrArg not hg1)) ?_; refine O_len rfl Tryd.underlying57 rfl ?_; exact hΦ
              · refine .inr ?_; intro s' R w' x Φ hs H hx hΦ; have e2 : x 2 = .bool (decide (x4 < 0)) := hx 2 (by decide) (by decide); have e3 : x 3 = .int .i64 x4 := hx 3 (by decide) (by decide); have e5 : x 5 = .int .i64 (a0.length : Int) := hx 5 (by decide) (by decide); simp only [e2, e3, e5]; refine wantK ((wanted_f rfl rfl rfl).trans (congrArg not hg1)) ?_; refine O_bin rfl rfl rfl eqg_int r_geq ?_; exact hΦ
              · refine .inr ?_; intro s' R w' x Φ hs H hx hΦ; have e2 : x 2 = .bool (decide (x4 < 0)) := hx 2 (by decide) (by decide); have e6 : x 6 = .bool (decide (x4 ≥ (a0.length : Int))) := hx 6 (by decide) (by decide); simp only [e2, e6]; refine wantG rfl ?_; refine O_pickF rfl rfl hg1 rfl ?_; exact hΦ
              · refine .inr ?_; intro s' R w' x Φ hs H hx hΦ; have e7 : x 7 = .bool (decide (x4 ≥ (a0.length : Int))) := hx 7 (by decide) (by decide); simp only [e7]; refine wantG rfl ?_; refine O_mv rfl rfl ?_; exact hΦ
              · refine .inr ?_; intro s' R w' x Φ hs H hx hΦ; have e8 : x 8 = .bool (decide (x4 ≥ (a0.length : Int))) := hx 8 (by decide) (by decide); simp only [e8]; refine wantK ((wanted_f rfl rfl rfl).trans (congrArg not hg2)) ?_; refine O_mv rfl rfl ?_; exact hΦ
              · refine .inr ?_; intro s' R w' x Φ hs H hx hΦ; have e8 : x 8 = .bool (decide (x4 ≥ (a0.length : Int))) := hx 8 (by decide) (by decide); simp only [e8]; refine wantK ((wanted_f rfl rfl rfl).trans (congrArg not hg2)) ?_; refine O_mv rfl rfl ?_; exact hΦ
              · refine .inr ?_; intro s' R w' x Φ hs H hx hΦ; have e8 : x 8 = .bool (decide (x4 ≥ (a0.length : Int))) := hx 8 (by decide) (by decide); have e9 : x 9 = .map (some r10) := hx 9 (by decide) (by decide); have e10 : x 10 = .int .i64 x4 := hx 10 (by decide) (by decide); simp only [e8, e9, e10]; refine wantK ((wanted_f rfl rfl rfl).trans (congrArg not hg2)) ?_; refine F_get mk_I 0 183 _ _ rfl Tryd.underlying183 (k := x4) h0e1 rfl rfl H rfl (Tryd.zeroValue4 _) ?_; exact hΦ
              · refine .inr ?_; intro s' R w' x Φ hs H hx hΦ; have e8 : x 8 = .bool (decide (x4 ≥ (a0.length : Int))) := hx 8 (by decide) (by decide); have e11 : x 11 = .bool ((y4_p0 x4).getD false) := hx 11 (by decide) (by decide); simp only [e8, e11]; refine wantG rfl ?_; refine O_pickF rfl rfl hg2 rfl ?_; exact hΦ
              · refine .inr ?_; intro s' R w' x Φ hs H hx hΦ; have e12 : x 12 = .bool ((y4_p0 x4).getD false) := hx 12 (by decide) (by decide); simp only [e12]; refine wantG rfl ?_; refine O_mv rfl rfl ?_; exact hΦ
              · refine .inr ?_; intro s' R w' x Φ hs H hx hΦ; have e13 : x 13 = .bool ((y4_p0 x4).getD false) := hx 13 (by decide) (by decide); simp only [e13]; refine wantK ((wanted_f rfl rfl rfl).trans (congrArg not hg3)) ?_; refine O_mv rfl rfl ?_; exact hΦ
              · refine .inr ?_; intro s' R w' x Φ hs H hx hΦ; have e13 : x 13 = .bool ((y4_p0 x4).getD false) := hx 13 (by decide) (by decide); simp only [e13]; refine wantK ((wanted_f rfl rfl rfl).trans (congrArg not hg3)) ?_; refine O_mv rfl rfl ?_; exact hΦ
              · refine .inr ?_; intro s' R w' x Φ hs H hx hΦ; have e13 : x 13 = .bool ((y4_p0 x4).getD false) := hx 13 (by decide) (by decide); simp only [e13]; refine wantK ((wanted_f rfl rfl rfl).trans (congrArg not hg3)) ?_; refine O_mv rfl rfl ?_; exact hΦ
              · refine .inr ?_; intro s' R w' x Φ hs H hx hΦ; have e13 : x 13 = .bool ((y4_p0 x4).getD false) := hx 13 (by decide) (by decide); have e15 : x 15 = .slice (some ⟨be2, oe2, none⟩) a0.length c_p0 := hx 15 (by decide) (by decide); have e16 : x 16 = .int .i64 x4 := hx 16 (by decide) (by decide); simp only [e13, e15, e16]; refine wantK ((wanted_f rfl rfl rfl).trans (congrArg not hg3)) ?_; refine O_ix rfl Tryd.underlying57 (Tryd.sizeOf75 _) rfl rfl gk1 gl1 ?_; exact hΦ
              · refine .inr ?_; intro s' R w' x Φ hs H hx hΦ; have e13 : x 13 = .bool ((y4_p0 x4).getD false) := hx 13 (by decide) (by decide); have e17 : x 17 = .pointer (some ⟨be2, oe2 + kk1 * 5, none⟩) := hx 17 (by decide) (by decide); simp only [e13, e17]; refine wantK ((wanted_f rfl rfl rfl).trans (congrArg not hg3)) ?_; refine O_fld rfl Tryd.underlying75 rfl (Tryd.sizeOf71 _) rfl ?_; exact hΦ
              · refine .inr ?_; intro s' R w' x Φ hs H hx hΦ; have e13 : x 13 = .bool ((y4_p0 x4).getD false) := hx 13 (by decide) (by decide); have e18 : x 18 = .pointer (some ⟨be2, oe2 + kk1 * 5 + 4, none⟩) := hx 18 (by decide) (by decide); simp only [e13, e18]; refine wantK ((wanted_f rfl rfl rfl).trans (congrArg not hg3)) ?_; refine G_s1 _ _ rfl (Tryd.isAgg71 _) rfl H (hCe2.mono hs) 4 rfl rfl ?_; exact hΦ
              · refine .inr ?_; intro s' R w' x Φ hs H hx hΦ; have e13 : x 13 = .bool ((y4_p0 x4).getD false) := hx 13 (by decide) (by decide); simp only [e13]; refine wantK ((wanted_f rfl rfl rfl).trans (congrArg not hg3)) ?_; refine O_mv rfl rfl ?_; exact hΦ
              · refine .inr ?_; intro s' R w' x Φ hs H hx hΦ; have e13 : x 13 = .bool ((y4_p0 x4).getD false) := hx 13 (by decide) (by decide); simp only [e13]; refine wantK ((wanted_f rfl rfl rfl).trans (congrArg not hg3)) ?_; refine O_mv rfl rfl ?_; exact hΦ
              · refine .inr ?_; intro s' R w' x Φ hs H hx hΦ; have e13 : x 13 = .bool ((y4_p0 x4).getD false) := hx 13 (by decide) (by decide); have e20 : x 20 = .slice (some ⟨be2, oe2, none⟩) a0.length c_p0 := hx 20 (by decide) (by decide); have e21 : x 21 = .int .i64 x4 := hx 21 (by decide) (by decide); simp only [e13, e20, e21]; refine wantK ((wanted_f rfl rfl rfl).trans (congrArg not hg3)) ?_; refine O_ix rfl Tryd.underlying57 (Tryd.sizeOf75 _) rfl rfl gk1 gl1 ?_; exact hΦ
              · refine .inr ?_; intro s' R w' x Φ hs H hx hΦ; have e13 : x 13 = .bool ((y4_p0 x4).getD false) := hx 13 (by decide) (by decide); have e22 : x 22 = .pointer (some ⟨be2, oe2 + kk1 * 5, none⟩) := hx 22 (by decide) (by decide); simp only [e13, e22]; refine wantK ((wanted_f rfl rfl rfl).trans (congrArg not hg3)) ?_; refine O_fld rfl Tryd.underlying75 rfl (Tryd.sizeOf3 _) rfl ?_; exact hΦ
              · refine .inr ?_; intro s' R w' x Φ hs H hx hΦ; have e13 : x 13 = .bool ((y4_p0 x4).getD false) := hx 13 (by decide) (by decide); have e23 : x 23 = .pointer (some ⟨be2, oe2 + kk1 * 5 + 1, none⟩) := hx 23 (by decide) (by decide); simp only [e13, e23]; refine wantK ((wanted_f rfl rfl rfl).trans (congrArg not hg3)) ?_; refine G_s1 _ _ rfl (Tryd.isAgg3 _) rfl H (hCe2.mono hs) 1 rfl rfl ?_; exact hΦ
              · refine .inr ?_; intro s' R w' x Φ hs H hx hΦ; have e13 : x 13 = .bool ((y4_p0 x4).getD false) := hx 13 (by decide) (by decide); have e24 : x 24 = .int .i64 u1.state := hx 24 (by decide) (by decide); simp only [e13, e24]; refine wantK ((wanted_f rfl rfl rfl).trans (congrArg not hg3)) ?_; refine O_bin rfl rfl rfl eqg_int r_eql ?_; exact hΦ
              · exact .inl (by decide)
              · exact .inl (by decide)
              · exact .inl (by decide)
            · refine ⟨?_, ?_, ?_, trivial⟩
              · intro c o S0 S1 hc ho h0 h1; obtain rfl := Option.some.inj hc; obtain rfl := Option.some.inj ho; obtain rfl := Option.some.inj h0; obtain rfl := Option.some.inj h1; intro w' x Φ hS hx hΦ
                have H : Holds E s (mpF kcI vcB r10 y4_p0 :: pt br10 (.cells #[.map (some r_y4_c1_0), .map (some r_y4_c1_1)] 91 (0, 0)) :: mpO kcS kI s r_y4_c1_0 y4_c1_0 :: mpF kcS vcI r_y4_c1_1 y4_c1_1 :: L) w' := hS; clear hS
                have e13 : x 13 = .bool ((y4_p0 x4).getD false) := hx 13 (by decide) (by decide)
                have e14 : x 14 = .pointer (some ⟨br10, 0, none⟩) := hx 14 (by decide) (by decide)
                have e19 : x 19 = .slice A4e2 u1.ops.length c4e2 := hx 19 (by decide) (by decide)
                have e25 : x 25 = .bool (u1.state == 3) := hx 25 (by decide) (by decide)
                simp only [e13, e14, e19, e25]
                refine wantK ((wanted_f rfl rfl rfl).trans (congrArg not hg3)) ?_
                replace H := H.front 3 rfl; simp only [List.eraseIdx_cons_succ, List.eraseIdx_cons_zero] at H
                replace H := H.front 3 rfl; simp only [List.eraseIdx_cons_succ, List.eraseIdx_cons_zero] at H
                replace H := H.front 3 rfl; simp only [List.eraseIdx_cons_succ, List.eraseIdx_cons_zero] at H
                refine O_call3 rfl Tryd.func42 rfl rfl rfl rfl rfl ?_; refine (model_State_Apply_w (a0 := (⟨y4_c1_0, y4_c1_1⟩ : MSt)) (a1 := u1.ops) (h_p1 := h4e2) (a2 := u1.state == 3) (hm := gx38601) (H := H)).mono ?_
                clear H
                rintro e w1 ⟨rr38601o0_lists, rr38601o0_regs, rfl, H⟩; refine ⟨_, rfl, ?_⟩
                exact hΦ _ _ ⟨rr38601o0_lists, rr38601o0_regs, updV_same, H⟩
              · intro c o S0 S1 hc ho h0 h1; obtain rfl := Option.some.inj hc; obtain rfl := Option.some.inj ho; obtain rfl := Option.some.inj h0; obtain rfl := Option.some.inj h1; intro w' x Φ hS hx hΦ
                obtain ⟨rr38601o0_lists, rr38601o0_regs, e26, H⟩ := hS
                have e13 : x 13 = .bool ((y4_p0 x4).getD false) := hx 13 (by decide) (by decide)
                simp only [e13, e26]
                refine wantK ((wanted_f rfl rfl rfl).trans (congrArg not hg3)) ?_
                refine O_not rfl rfl ?_
                exact hΦ _ _ ⟨rr38601o0_lists, rr38601o0_regs, (updV_ne (by decide)).trans e26, updV_same, H⟩
              · intro c o S0 S1 hc ho h0 h1; obtain rfl := Option.some.inj hc; obtain rfl := Option.some.inj ho; obtain rfl := Option.some.inj h0; obtain rfl := Option.some.inj h1; intro w' x Φ hS hx hΦ
                obtain ⟨rr38601o0_lists, rr38601o0_regs, e26, e27, H⟩ := hS
                have e13 : x 13 = .bool ((y4_p0 x4).getD false) := hx 13 (by decide) (by decide)
                simp only [e13, e27]
                refine wantG rfl ?_
                refine O_pickF rfl rfl hg3 rfl ?_
                exact hΦ _ _ ⟨rr38601o0_lists, rr38601o0_regs, (updV_ne (by decide)).trans e26, (updV_ne (by decide)).trans e27, updV_same, H⟩
            · clear H
              intro w' x hS hx
              obtain ⟨rr38601o0_lists, rr38601o0_regs, e26, e27, e28, H⟩ := hS
              have e0 : x 0 = .int .i64 x4 := hx 0 (by decide) (by decide)
              have e1 : x 1 = .bool (decide (x4 < 0)) := hx 1 (by decide) (by decide)
              have e2 : x 2 = .bool (decide (x4 < 0)) := hx 2 (by decide) (by decide)
              have e3 : x 3 = .int .i64 x4 := hx 3 (by decide) (by decide)
              have e4 : x 4 = .slice (some ⟨be2, oe2, none⟩) a0.length c_p0 := hx 4 (by decide) (by decide)
              have e5 : x 5 = .int .i64 (a0.length : Int) := hx 5 (by decide) (by decide)
              have e6 : x 6 = .bool (decide (x4 ≥ (a0.length : Int))) := hx 6 (by decide) (by decide)
              have e7 : x 7 = .bool (decide (x4 ≥ (a0.length : Int))) := hx 7 (by decide) (by decide)
              have e8 : x 8 = .bool (decide (x4 ≥ (a0.length : Int))) := hx 8 (by decide) (by decide)
              have e9 : x 9 = .map (some r10) := hx 9 (by decide) (by decide)
              have e10 : x 10 = .int .i64 x4 := hx 10 (by decide) (by decide)
              have e11 : x 11 = .bool ((y4_p0 x4).getD false) := hx 11 (by decide) (by decide)
              have e12 : x 12 = .bool ((y4_p0 x4).getD false) := hx 12 (by decide) (by decide)
              have e13 : x 13 = .bool ((y4_p0 x4).getD false) := hx 13 (by decide) (by decide)
              have e14 : x 14 = .pointer (some ⟨br10, 0, none⟩) := hx 14 (by decide) (by decide)
              have e15 : x 15 = .slice (some ⟨be2, oe2, none⟩) a0.length c_p0 := hx 15 (by decide) (by decide)
              have e16 : x 16 = .int .i64 x4 := hx 16 (by decide) (by decide)
              have e17 : x 17 = .pointer (some ⟨be2, oe2 + kk1 * 5, none⟩) := hx 17 (by decide) (by decide)
              have e18 : x 18 = .pointer (some ⟨be2, oe2 + kk1 * 5 + 4, none⟩) := hx 18 (by decide) (by decide)
              have e19 : x 19 = .slice A4e2 u1.ops.length c4e2 := hx 19 (by decide) (by decide)
              have e20 : x 20 = .slice (some ⟨be2, oe2, none⟩) a0.length c_p0 := hx 20 (by decide) (by decide)
              have e21 : x 21 = .int .i64 x4 := hx 21 (by decide) (by decide)
              have e22 : x 22 = .pointer (some ⟨be2, oe2 + kk1 * 5, none⟩) := hx 22 (by decide) (by decide)
              have e23 : x 23 = .pointer (some ⟨be2, oe2 + kk1 * 5 + 1, none⟩) := hx 23 (by decide) (by decide)
              have e24 : x 24 = .int .i64 u1.state := hx 24 (by decide) (by decide)
              have e25 : x 25 = .bool (u1.state == 3) := hx 25 (by decide) (by decide)
              simp only [e0, e1, e2, e3, e4, e5, e6, e7, e8, e9, e10, e11, e12, e13, e14, e15, e16, e17, e18, e19, e20, e21, e22, e23, e24, e25, e26, e27, e28]
              clear hx
              refine list_end ?_
              refine then_norm ?_
              refine wp_cond_split rfl (fun hc => ?_) (fun hc => ?_)
              · have hc2 := hc
                clear hc
                replace hq4 := ifT hc2 hq4
                refine wp_seq ?_
                refine wp_region_lit ?_
                apply seq_op (V := .bool false) rfl
                · exact fun _ h => O_as rfl rfl h
                (try simp only [PT])
                refine list_end ?_
                refine then_norm ?_
                refine wp_ret ?_
                refine then_ret ?_
                refine block_ret ?_
                refine then_ret ?_
                refine then_ret ?_
                refine block_ret ?_
                refine then_ret ?_
                have hq4 := Option.some.inj hq4
                subst hq4
                (try dsimp only at hm)
                have hm := Option.some.inj hm
                subst hm
                replace H := H.dropAt 3 rfl; simp only [List.eraseIdx_cons_succ, List.eraseIdx_cons_zero] at H
                replace H := H.dropAt 2 rfl; simp only [List.eraseIdx_cons_succ, List.eraseIdx_cons_zero] at H
                replace H := H.dropAt 1 rfl; simp only [List.eraseIdx_cons_succ, List.eraseIdx_cons_zero] at H
                replace H := H.dropAt 0 rfl; simp only [List.eraseIdx_cons_succ, List.eraseIdx_cons_zero] at H
                exact ret1 rfl (rv_tmp rfl) rfl ⟨rfl, H⟩
              · have hc2 := hc
                clear hc
                replace hq4 := ifF hc2 hq4
                refine wp_skip ?_
                refine then_norm ?_
                refine wp_region_lit ?_
                apply seq_op (V := .map (some r10)) rfl
                · exact fun _ h => O_mv rfl rfl h
                (try simp only [PT])
                apply seq_op (V := .int .i64 x4) rfl
                · exact fun _ h => O_mv rfl rfl h
                (try simp only [PT])
                refine OpG.list rfl ?_; refine F_put mk_I 3 183 _ _ _ rfl Tryd.underlying183 (k := x4) (v := true) h0e1 trivial rfl rfl rfl H rfl ?_; clear H; intro w1 H; simp only [List.set_cons_succ, List.set_cons_zero] at H
                (try simp only [PT])
                refine list_end ?_
                refine block_norm ?_
                refine then_norm ?_
                refine wp_region_lit ?_
                apply seq_op (V := .int .i64 (IntKind.i64.wrap ((k4 : Int) + 1))) rfl
                · exact fun _ h => O_bin rfl rfl rfl eqg_int r_add h
                (try simp only [PT])
                apply seq_op (V := .int .i64 (IntKind.i64.wrap ((k4 : Int) + 1))) rfl
                · exact fun _ h => O_mv rfl rfl h
                (try simp only [PT])
                refine list_end ?_
                refine then_norm ?_
                replace H := H.front 2 rfl; simp only [List.eraseIdx_cons_succ, List.eraseIdx_cons_zero] at H
                replace H := H.front 2 rfl; simp only [List.eraseIdx_cons_succ, List.eraseIdx_cons_zero] at H
                replace H := H.front 2 rfl; simp only [List.eraseIdx_cons_succ, List.eraseIdx_cons_zero] at H
                replace H := H.front 3 rfl; simp only [List.eraseIdx_cons_succ, List.eraseIdx_cons_zero] at H
                refine ⟨⟨⟨rfl, rfl, rfl, rfl, rfl, rfl, rfl, rfl, rfl, rfl, rfl, rfl⟩, rfl⟩, ⟨k4 + 1, _, (fset y4_p0 x4 true), u38601.2.lists, rr38601o0_lists, u38601.2.regs, rr38601o0_regs, hd4'', wrap_succ hl4 hn4, hq4, H⟩, ?_⟩
                exact meas_succ hl4 hn4
    · have hc1 := hc
      clear hc
      obtain rfl := rng_f hd4 hc1
      rw [model_Replay_l4] at hq4
      refine wp_exit ?_
      refine then_exit ?_
      refine then_exit ?_
      have hq4 := Option.some.inj hq4
      subst hq4
      (try dsimp only at hm)
      refine block_exit ?_
      refine then_norm ?_
      refine wp_seq ?_
      refine wp_region_lit ?_
      apply seq_op (V := .bool true) rfl
      · exact fun _ h => O_as rfl rfl h
      (try simp only [PT])
      refine list_end ?_
      refine then_norm ?_
      refine wp_ret ?_
      have hm := Option.some.inj hm
      subst hm
      replace H := H.dropAt 3 rfl; simp only [List.eraseIdx_cons_succ, List.eraseIdx_cons_zero] at H
      replace H := H.dropAt 2 rfl; simp only [List.eraseIdx_cons_succ, List.eraseIdx_cons_zero] at H
      replace H := H.dropAt 1 rfl; simp only [List.eraseIdx_cons_succ, List.eraseIdx_cons_zero] at H
      replace H := H.dropAt 0 rfl; simp only [List.eraseIdx_cons_succ, List.eraseIdx_cons_zero] at H
      exact ret1 rfl (rv_tmp rfl) rfl ⟨rfl, H⟩
end Go.Proofs.YtemdmpgekegfhaaDoor
