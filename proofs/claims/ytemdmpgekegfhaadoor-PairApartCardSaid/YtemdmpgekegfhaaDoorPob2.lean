/- Walks, printed by fx.py: part 2. -/
import Derived.Test.YtemdmpgekegfhaaDoorPob1
namespace Go.Proofs.YtemdmpgekegfhaaDoor
open Go.RowKit
set_option linter.all false
set_option maxRecDepth 10000
def histtext_CopyOps_l3  : Nat → Nat → (List Op') → Option (((List Op')))
  | k3, 0, y3_p0 => some y3_p0
  | k3, r3 + 1, y3_p0 => (rdI y3_p0 (k3 : Int)).bind fun u1 => histtext_CopyOps_l3 (k3 + 1) r3 (setI y3_p0 (k3 : Int) (⟨u1.kind, u1.key, u1.value, u1.list, u1.has, u1.isNil⟩ : Op'))

def histtext_CopyOps_f (a0 : List Op') : Option ((List Op')) := (histtext_CopyOps_l3 0 ((a0.length : Int)).toNat a0).bind fun z3_p0 => some z3_p0

set_option maxHeartbeats 4000000 in
theorem histtext_CopyOps_w {E : World} {s : SH} {L : List HP} {w : World} {a0 : List Op'} {A_p0 : Option Addr} {c_p0 : Nat} (h_p0 : kOp.Sl s (.slice A_p0 a0.length c_p0) a0) {R : (List Op')} (hm : histtext_CopyOps_f a0 = some R) (H : Holds E s (L) w) :
    Calls Tryd.prog 71 #[.slice A_p0 a0.length c_p0] w fun e w' => ∃ A0 c0 n0 s', e = .returned (.slice A0 n0 c0) ∧ Sub s s' ∧ Holds E s' ((kOp.sh s').Osl (.slice A0 n0 c0) R :: L) w' := by
  unfold histtext_CopyOps_f at hm
  go_enter Tryd.func71, Tryd.ntmps71
  refine wp_seq ?_
  refine wp_region_lit ?_
  apply seq_op (V := .slice none 0 0) rfl
  · exact fun _ h => O_as rfl rfl h
  (try simp only [PT])
  refine list_end ?_
  refine then_norm ?_
  refine wp_seq ?_
  refine wp_region_lit ?_
  apply seq_op (V := .slice A_p0 a0.length c_p0) rfl
  · exact fun _ h => O_mv rfl rfl h
  (try simp only [PT])
  refine seq_call rfl (fun Φ hΦ => by refine O_call1 rfl Tryd.func122 rfl rfl rfl hΦ) (clone_kOp_w (a0 := a0) (h_p0 := h_p0) (H := H)) ?_
  clear H
  rintro e w1 ⟨Ar10, cr10, nr10, rfl, H⟩; refine ⟨_, rfl, ?_⟩
  obtain rfl := osl_len 0 H rfl
  (try simp only [PT])
  apply seq_op (V := .slice Ar10 a0.length cr10) rfl
  · exact fun _ h => O_as rfl rfl h
  (try simp only [PT])
  refine list_end ?_
  refine then_norm ?_
  refine wp_seq ?_
  refine wp_seq ?_
  have gn1 : Kin.inI64 ((a0.length : Nat) : Int) := osl_i 0 H rfl (by decide : 0 < kOp.by_)
  refine wp_region_lit ?_
  apply seq_op (V := .slice Ar10 a0.length cr10) rfl
  · exact fun _ h => O_mv rfl rfl h
  (try simp only [PT])
  apply seq_op (V := .int .i64 (a0.length : Int)) rfl
  · exact fun _ h => O_len rfl Tryd.underlying71 rfl h
  (try simp only [PT])
  apply seq_op (V := .int .i64 0) rfl
  · exact fun _ h => O_mv rfl rfl h
  (try simp only [PT])
  refine list_end ?_
  refine then_norm ?_
  refine wp_block ?_
  obtain ⟨R3, hq3, hm⟩ := bs hm
  have hn3 := int_le gn1
  refine wp_loopF [none, none, none, none, some 4, none, none, none, none, some 9, some 10, some 11, some 12, some 13, some 14, some 15, some 16, some 17, some 18, some 19, some 20, some 21, some 22, none] rfl (by simp) (fun f w => ∃ (k3 : Nat) (r3 : Nat) (sL3 : SH) (y3_p0 : List Op'), Sub s sL3 ∧ k3 + r3 = ((a0.length : Int)).toNat ∧ f 9 = .int .i64 (k3 : Int) ∧ histtext_CopyOps_l3 k3 r3 y3_p0 = some R3 ∧ Holds E sL3 ((kOp.sh sL3).Osl (.slice Ar10 a0.length cr10) y3_p0 :: L) w) (fun f w => ((a0.length : Int)).toNat - (intOf (f 9)).toNat) ?_ ?_
  · exact ⟨0, _, s, a0, Sub.refl _, Nat.zero_add _, rfl, hq3, H⟩
  · clear H
    intro f w hI
    obtain ⟨k3, r3, sL3, y3_p0, hs3, hd3, hf9, hq3', H⟩ := hI
    clear hq3; have hq3 := hq3'; clear hq3'
    simp only [ovm, mixM]
    simp only [hf9]; clear hf9
    replace h_p0 := h_p0.mono hs3
    have hS := hs3
    refine wp_seq ?_
    refine wp_region_lit ?_
    apply seq_op (V := .bool (decide ((k3 : Int) < (a0.length : Int)))) rfl
    · exact fun _ h => O_bin rfl rfl rfl eqg_int r_lss h
    (try simp only [PT])
    refine list_end ?_
    refine then_norm ?_
    refine wp_seq ?_
    refine wp_cond_split rfl (fun hc => ?_) (fun hc => ?_)
    · have hc1 := hc
      clear hc
      obtain ⟨r3', rfl, hl3, hd3''⟩ := irng_t hd3 hc1
      rw [histtext_CopyOps_l3] at hq3
      refine wp_skip ?_
      refine then_norm ?_
      refine wp_seq ?_
      refine wp_block ?_
      refine wp_seq ?_
      refine wp_region_lit ?_
      apply seq_op (V := .int .i64 (k3 : Int)) rfl
      · exact fun _ h => O_mv rfl rfl h
      (try simp only [PT])
      apply seq_op (V := .int .i64 (k3 : Int)) rfl
      · exact fun _ h => O_as rfl rfl h
      (try simp only [PT])
      refine list_end ?_
      refine then_norm ?_
      obtain ⟨u1, gx1, hq3⟩ := bs hq3
      obtain ⟨kk1, gk1, gl1, gd1⟩ := rdI_some gx1
      obtain ⟨bokk1, rfl⟩ := own_addr 0 H rfl (fun e => by rw [e] at gl1; exact absurd gl1 (Nat.not_lt_zero _))
      have gngl1 := Nat.lt_of_lt_of_eq gl1 (osl_len 0 H rfl).symm
      obtain ⟨cse1, hKe1⟩ := own_has 0 H rfl gd1; obtain ⟨_, _, -, h0e1, h1e1, h2e1, -⟩ := kOp_op hKe1
      refine wp_region_lit ?_
      apply seq_op (V := .slice (some ⟨bokk1, 0, none⟩) a0.length cr10) rfl
      · exact fun _ h => O_mv rfl rfl h
      (try simp only [PT])
      apply seq_op (V := .int .i64 (k3 : Int)) rfl
      · exact fun _ h => O_mv rfl rfl h
      (try simp only [PT])
      apply seq_op (V := .slice (some ⟨bokk1, 0, none⟩) a0.length cr10) rfl
      · exact fun _ h => O_mv rfl rfl h
      (try simp only [PT])
      apply seq_op (V := .int .i64 (k3 : Int)) rfl
      · exact fun _ h => O_mv rfl rfl h
      (try simp only [PT])
      apply seq_op (V := .pointer (some ⟨bokk1, kk1 * 6, none⟩)) rfl
      · exact fun _ h => O_ixn rfl Tryd.underlying71 (Tryd.sizeOf108 _) rfl rfl gk1 gngl1 h
      (try simp only [PT])
      apply seq_op (V := .pointer (some ⟨bokk1, kk1 * 6 + 3, none⟩)) rfl
      · exact fun _ h => O_fld rfl Tryd.underlying108 rfl (Tryd.sizeOf27 _) rfl h
      (try simp only [PT])
      refine OpG.list rfl ?_; refine G_owngetF (d := kOp) (f := 3) 0 _ _ rfl (Tryd.isAgg27 _) rfl rfl (by decide) H rfl gd1 ?_; intro cs v hK hv; obtain ⟨A3o1, c3o1, rfl, -, -, -, h3o1⟩ := kOp_op hK; obtain rfl := Option.some.inj hv
      (try simp only [PT])
      refine seq_call rfl (fun Φ hΦ => by refine O_call1 rfl Tryd.func55 rfl rfl rfl hΦ) (clone_kI_w (a0 := u1.list) (h_p0 := h3o1) (H := H)) ?_
      clear H
      rintro e w1 ⟨Ar20, cr20, nr20, rfl, H⟩; refine ⟨_, rfl, ?_⟩
      obtain rfl := osl_len 0 H rfl
      skip
      obtain ⟨s1, hs', H, hf1⟩ := Kin.Osl.fr H; replace hf1 := hf1.unsh hs'
      replace h_p0 := h_p0.mono hs'
      replace h3o1 := h3o1.mono hs'
      replace H := Holds.mapAt (A := (kOp.sh sL3).Osl (.slice (some ⟨bokk1, 0, none⟩) a0.length cr10) y3_p0) (B := (kOp.sh s1).Osl (.slice (some ⟨bokk1, 0, none⟩) a0.length cr10) y3_p0) 0 rfl (fun h k => Kin.Osl.sh_mono (d := kOp) hs' h k) H; simp only [List.set_cons_succ, List.set_cons_zero] at H
      replace hS := hS.trans hs'
      replace hs3 := hs3.trans hs'
      (try simp only [PT])
      apply seq_op (V := .pointer (some ⟨bokk1, kk1 * 6, none⟩)) rfl
      · exact fun _ h => O_ixn rfl Tryd.underlying71 (Tryd.sizeOf108 _) rfl rfl gk1 gngl1 h
      (try simp only [PT])
      apply seq_op (V := .pointer (some ⟨bokk1, kk1 * 6 + 3, none⟩)) rfl
      · exact fun _ h => O_fld rfl Tryd.underlying108 rfl (Tryd.sizeOf27 _) rfl h
      (try simp only [PT])
      refine OpG.list rfl ?_; refine G_ownsetF (d := kOp) 0 _ _ _ rfl (Tryd.sizeOf27 _) (f := 3) (v := .slice Ar20 u1.list.length cr20) (x' := (⟨u1.kind, u1.key, u1.value, u1.list, u1.has, u1.isNil⟩ : Op')) rfl rfl (by decide) rfl H rfl gk1 gd1 rfl (fun cs h => by obtain ⟨_, _, rfl, h0', h1', h2', -⟩ := kOp_op h; exact kOp_mk' (s := s1) (x := (⟨u1.kind, u1.key, u1.value, u1.list, u1.has, u1.isNil⟩ : Op')) h0' h1' h2' hf1) ?_; clear H; intro w1 H; simp only [List.set_cons_succ, List.set_cons_zero] at H
      (try simp only [PT])
      obtain ⟨gd2, gl2⟩ := setI_drop (x := (⟨u1.kind, u1.key, u1.value, u1.list, u1.has, u1.isNil⟩ : Op')) gk1 gl1
      refine list_end ?_
      refine block_norm ?_
      refine then_norm ?_
      refine wp_region_lit ?_
      apply seq_op (V := .int .i64 (IntKind.i64.wrap ((k3 : Int) + 1))) rfl
      · exact fun _ h => O_bin rfl rfl rfl eqg_int r_add h
      (try simp only [PT])
      apply seq_op (V := .int .i64 (IntKind.i64.wrap ((k3 : Int) + 1))) rfl
      · exact fun _ h => O_mv rfl rfl h
      (try simp only [PT])
      refine list_end ?_
      refine then_norm ?_
      refine ⟨⟨⟨rfl, rfl, rfl, rfl, rfl, rfl, rfl, rfl, rfl, rfl⟩, rfl⟩, ⟨k3 + 1, r3', s1, (setI y3_p0 (k3 : Int) (⟨u1.kind, u1.key, u1.value, u1.list, u1.has, u1.isNil⟩ : Op')), hs3, hd3'', wrap_succ hl3 hn3, hq3, H⟩, ?_⟩
      exact meas_succ hl3 hn3
    · have hc1 := hc
      clear hc
      obtain rfl := irng_f hd3 hc1
      rw [histtext_CopyOps_l3] at hq3
      refine wp_exit ?_
      refine then_exit ?_
      refine then_exit ?_
      have hq3 := Option.some.inj hq3
      subst hq3
      (try dsimp only at hm)
      refine block_exit ?_
      refine then_norm ?_
      refine wp_seq ?_
      refine wp_region_lit ?_
      apply seq_op (V := .slice Ar10 a0.length cr10) rfl
      · exact fun _ h => O_mv rfl rfl h
      (try simp only [PT])
      apply seq_op (V := .slice Ar10 a0.length cr10) rfl
      · exact fun _ h => O_as rfl rfl h
      (try simp only [PT])
      refine list_end ?_
      refine then_norm ?_
      refine wp_ret ?_
      have hm := Option.some.inj hm
      subst hm
      exact ret1 rfl (rv_tmp rfl) rfl ⟨Ar10, cr10, a0.length, sL3, rfl, hS, H⟩
def pair_bare_l3  : Nat → Nat → (List Op') → Option (((List Op')))
  | k3, 0, y3_p0 => some y3_p0
  | k3, r3 + 1, y3_p0 => (rdI y3_p0 (k3 : Int)).bind fun u2 => if (pair_reads_f u2) = true then (pair_bare_l3 (k3 + 1) r3 (setI y3_p0 (k3 : Int) (⟨u2.kind, u2.key, 0, [], false, false⟩ : Op'))) else (pair_bare_l3 (k3 + 1) r3 y3_p0)

def pair_bare_f (a0 : List Op') : Option ((List Op')) := (histtext_CopyOps_f a0).bind fun u1 => (pair_bare_l3 0 ((u1.length : Int)).toNat u1).bind fun z3_p0 => some z3_p0

set_option maxHeartbeats 4000000 in
theorem pair_bare_w {E : World} {s : SH} {L : List HP} {w : World} {a0 : List Op'} {A_p0 : Option Addr} {c_p0 : Nat} (h_p0 : kOp.Sl s (.slice A_p0 a0.length c_p0) a0) {R : (List Op')} (hm : pair_bare_f a0 = some R) (H : Holds E s (L) w) :
    Calls Tryd.prog 158 #[.slice A_p0 a0.length c_p0] w fun e w' => ∃ A0 c0 n0 s', e = .returned (.slice A0 n0 c0) ∧ Sub s s' ∧ Holds E s' ((kOp.sh s').Osl (.slice A0 n0 c0) R :: L) w' := by
  unfold pair_bare_f at hm
  go_enter Tryd.func158, Tryd.ntmps158
  refine wp_seq ?_
  refine wp_region_lit ?_
  apply seq_op (V := .slice none 0 0) rfl
  · exact fun _ h => O_as rfl rfl h
  (try simp only [PT])
  refine list_end ?_
  refine then_norm ?_
  refine wp_seq ?_
  obtain ⟨u1, gx1, hm⟩ := bs hm
  refine wp_region_lit ?_
  apply seq_op (V := .slice A_p0 a0.length c_p0) rfl
  · exact fun _ h => O_mv rfl rfl h
  (try simp only [PT])
  refine seq_call rfl (fun Φ hΦ => by refine O_call1 rfl Tryd.func71 rfl rfl rfl hΦ) (histtext_CopyOps_w (a0 := a0) (h_p0 := h_p0) (hm := gx1) (H := H)) ?_
  clear H
  rintro e w1 ⟨Ar10, cr10, nr10, s1, rfl, hs', H⟩; refine ⟨_, rfl, ?_⟩
  obtain rfl := osl_len 0 H rfl
  replace h_p0 := h_p0.mono hs'
  have hS := hs'
  (try simp only [PT])
  apply seq_op (V := .slice Ar10 u1.length cr10) rfl
  · exact fun _ h => O_as rfl rfl h
  (try simp only [PT])
  refine list_end ?_
  refine then_norm ?_
  refine wp_seq ?_
  refine wp_seq ?_
  have gn1 : Kin.inI64 ((u1.length : Nat) : Int) := osl_i 0 H rfl (by decide : 0 < kOp.by_)
  refine wp_region_lit ?_
  apply seq_op (V := .slice Ar10 u1.length cr10) rfl
  · exact fun _ h => O_mv rfl rfl h
  (try simp only [PT])
  apply seq_op (V := .int .i64 (u1.length : Int)) rfl
  · exact fun _ h => O_len rfl Tryd.underlying71 rfl h
  (try simp only [PT])
  apply seq_op (V := .int .i64 0) rfl
  · exact fun _ h => O_mv rfl rfl h
  (try simp only [PT])
  refine list_end ?_
  refine then_norm ?_
  refine wp_block ?_
  obtain ⟨R3, hq3, hm⟩ := bs hm
  have hn3 := int_le gn1
  refine wp_loopF [none, none, none, none, some 4, some 5, none, none, none, none, some 10, some 11, some 12, some 13, some 14, some 15, some 16, some 17, some 18, some 19, some 20, some 21, some 22, some 23, some 24, some 25, none] rfl (by simp) (fun f w => ∃ (k3 : Nat) (r3 : Nat) (y3_p0 : List Op'), k3 + r3 = ((u1.length : Int)).toNat ∧ f 10 = .int .i64 (k3 : Int) ∧ pair_bare_l3 k3 r3 y3_p0 = some R3 ∧ Holds E s1 ((kOp.sh s1).Osl (.slice Ar10 u1.length cr10) y3_p0 :: L) w) (fun f w => ((u1.length : Int)).toNat - (intOf (f 10)).toNat) ?_ ?_
  · exact ⟨0, _, u1, Nat.zero_add _, rfl, hq3, H⟩
  · clear H
    intro f w hI
    obtain ⟨k3, r3, y3_p0, hd3, hf10, hq3', H⟩ := hI
    clear hq3; have hq3 := hq3'; clear hq3'
    simp only [ovm, mixM]
    simp only [hf10]; clear hf10
    refine wp_seq ?_
    refine wp_region_lit ?_
    apply seq_op (V := .bool (decide ((k3 : Int) < (u1.length : Int)))) rfl
    · exact fun _ h => O_bin rfl rfl rfl eqg_int r_lss h
    (try simp only [PT])
    refine list_end ?_
    refine then_norm ?_
    refine wp_seq ?_
    refine wp_cond_split rfl (fun hc => ?_) (fun hc => ?_)
    · have hc1 := hc
      clear hc
      obtain ⟨r3', rfl, hl3, hd3''⟩ := irng_t hd3 hc1
      rw [pair_bare_l3] at hq3
      refine wp_skip ?_
      refine then_norm ?_
      refine wp_seq ?_
      refine wp_block ?_
      refine wp_seq ?_
      obtain ⟨u2, gx2, hq3⟩ := bs hq3
      obtain ⟨kk1, gk1, gl1, gd1⟩ := rdI_some gx2
      obtain ⟨bokk1, rfl⟩ := own_addr 0 H rfl (fun e => by rw [e] at gl1; exact absurd gl1 (Nat.not_lt_zero _))
      have gngl1 := Nat.lt_of_lt_of_eq gl1 (osl_len 0 H rfl).symm
      obtain ⟨cse1, hKe1⟩ := own_has 0 H rfl gd1; obtain ⟨_, _, -, h0e1, h1e1, h2e1, -⟩ := kOp_op hKe1
      refine wp_region_lit ?_
      apply seq_op (V := .int .i64 (k3 : Int)) rfl
      · exact fun _ h => O_mv rfl rfl h
      (try simp only [PT])
      apply seq_op (V := .pointer (some ⟨bokk1, kk1 * 6, none⟩)) rfl
      · exact fun _ h => O_ixn rfl Tryd.underlying71 (Tryd.sizeOf108 _) rfl rfl gk1 gngl1 h
      (try simp only [PT])
      refine OpG.list rfl ?_; refine G_owngetN (d := kOp) 0 _ _ rfl (Tryd.isAgg108 _) (Tryd.sizeOf108 _) rfl rfl H rfl gd1 ?_; intro cs hK; obtain ⟨A3o1, c3o1, rfl, -, -, -, h3o1⟩ := kOp_op hK
      (try simp only [PT])
      refine OpG.list rfl ?_; refine G_alloc 108 rfl (Tryd.zeroValue108 _) H ?_; clear H; intro b5 w1 H; (try simp only [Value.cells] at H)
      (try simp only [PT])
      apply seq_op (V := .int .i64 (k3 : Int)) rfl
      · exact fun _ h => O_as rfl rfl h
      (try simp only [PT])
      refine OpG.list rfl ?_; refine G_setNi 0 (c := [.int .i64 u2.kind, .string u2.key, .int .i64 u2.value, .slice A3o1 u2.list.length c3o1, .bool u2.has, .bool u2.isNil]) _ _ _ rfl (Tryd.sizeOf108 _) rfl rfl (by simp [Value.oneCell']) H rfl rfl ?_; clear H; intro w1 H; simp only [List.set_cons_succ, List.set_cons_zero] at H
      (try simp only [PT])
      refine list_end ?_
      refine then_norm ?_
      refine wp_seq ?_
      refine wp_region_lit ?_
      apply seq_op (V := .agg #[.int .i64 u2.kind, .string u2.key, .int .i64 u2.value, .slice A3o1 u2.list.length c3o1, .bool u2.has, .bool u2.isNil]) rfl
      · exact fun _ h => G_pNi 0 _ _ rfl (Tryd.isAgg108 _) rfl H rfl (Tryd.sizeOf108 _) h
      (try simp only [PT])
      refine seq_call rfl (fun Φ hΦ => by refine O_call1 rfl Tryd.func155 rfl rfl rfl hΦ) (pair_reads_w (a0 := u2) (h_p0_list := h3o1) (H := H)) ?_
      clear H
      rintro e w1 ⟨rfl, H⟩; refine ⟨_, rfl, ?_⟩
      (try simp only [PT])
      refine list_end ?_
      refine then_norm ?_
      refine wp_cond_split rfl (fun hc => ?_) (fun hc => ?_)
      · have hc2 := hc
        clear hc
        replace hq3 := ifT hc2 hq3
        refine wp_region_lit ?_
        apply seq_op (V := .slice (some ⟨bokk1, 0, none⟩) u1.length cr10) rfl
        · exact fun _ h => O_mv rfl rfl h
        (try simp only [PT])
        apply seq_op (V := .int .i64 (k3 : Int)) rfl
        · exact fun _ h => O_mv rfl rfl h
        (try simp only [PT])
        apply seq_op (V := .pointer (some ⟨b5, 0, none⟩)) rfl
        · exact fun _ h => O_fld rfl Tryd.underlying108 rfl (Tryd.sizeOf3 _) rfl h
        (try simp only [PT])
        apply seq_op (V := .int .i64 u2.kind) rfl
        · exact fun _ h => L_1 0 _ _ rfl (Tryd.isAgg3 _) rfl H rfl rfl h
        (try simp only [PT])
        apply seq_op (V := .pointer (some ⟨b5, 1, none⟩)) rfl
        · exact fun _ h => O_fld rfl Tryd.underlying108 rfl (Tryd.sizeOf9 _) rfl h
        (try simp only [PT])
        apply seq_op (V := .string u2.key) rfl
        · exact fun _ h => L_1 0 _ _ rfl (Tryd.isAgg9 _) rfl H rfl rfl h
        (try simp only [PT])
        apply seq_op (V := .agg #[.int .i64 u2.kind, .string u2.key, .int .i64 0, .slice none 0 0, .bool false, .bool false]) rfl
        · exact fun _ h => O_bld (cs := [.int .i64 u2.kind, .string u2.key, .int .i64 0, .slice none 0 0, .bool false, .bool false]) rfl (by kernel_rfl) h
        (try simp only [PT])
        apply seq_op (V := .pointer (some ⟨bokk1, kk1 * 6, none⟩)) rfl
        · exact fun _ h => O_ixn rfl Tryd.underlying71 (Tryd.sizeOf108 _) rfl rfl gk1 gngl1 h
        (try simp only [PT])
        refine OpG.list rfl ?_; refine G_ownsetN (d := kOp) 1 _ _ _ rfl (c := [.int .i64 u2.kind, .string u2.key, .int .i64 0, .slice none 0 0, .bool false, .bool false]) rfl (Tryd.sizeOf108 _) (x' := (⟨u2.kind, u2.key, 0, [], false, false⟩ : Op')) rfl rfl rfl H rfl gk1 gl1 (kOp_mk' (s := s1) (x := (⟨u2.kind, u2.key, 0, [], false, false⟩ : Op')) h0e1 h1e1 (by constructor <;> decide : Kin.inI64 0) Kin.Sl.nil) ?_; clear H; intro w1 H; simp only [List.set_cons_succ, List.set_cons_zero] at H
        (try simp only [PT])
        obtain ⟨gd2, gl2⟩ := setI_drop (x := (⟨u2.kind, u2.key, 0, [], false, false⟩ : Op')) gk1 gl1
        refine list_end ?_
        refine block_norm ?_
        refine then_norm ?_
        refine wp_region_lit ?_
        apply seq_op (V := .int .i64 (IntKind.i64.wrap ((k3 : Int) + 1))) rfl
        · exact fun _ h => O_bin rfl rfl rfl eqg_int r_add h
        (try simp only [PT])
        apply seq_op (V := .int .i64 (IntKind.i64.wrap ((k3 : Int) + 1))) rfl
        · exact fun _ h => O_mv rfl rfl h
        (try simp only [PT])
        refine list_end ?_
        refine then_norm ?_
        replace H := H.drop
        refine ⟨⟨⟨rfl, rfl, rfl, rfl, rfl, rfl, rfl, rfl, rfl, rfl⟩, rfl⟩, ⟨k3 + 1, r3', (setI y3_p0 (k3 : Int) (⟨u2.kind, u2.key, 0, [], false, false⟩ : Op')), hd3'', wrap_succ hl3 hn3, hq3, H⟩, ?_⟩
        exact meas_succ hl3 hn3
      · have hc2 := hc
        clear hc
        replace hq3 := ifF hc2 hq3
        refine wp_skip ?_
        refine block_norm ?_
        refine then_norm ?_
        refine wp_region_lit ?_
        apply seq_op (V := .int .i64 (IntKind.i64.wrap ((k3 : Int) + 1))) rfl
        · exact fun _ h => O_bin rfl rfl rfl eqg_int r_add h
        (try simp only [PT])
        apply seq_op (V := .int .i64 (IntKind.i64.wrap ((k3 : Int) + 1))) rfl
        · exact fun _ h => O_mv rfl rfl h
        (try simp only [PT])
        refine list_end ?_
        refine then_norm ?_
        replace H := H.drop
        refine ⟨⟨⟨rfl, rfl, rfl, rfl, rfl, rfl, rfl, rfl, rfl, rfl⟩, rfl⟩, ⟨k3 + 1, r3', y3_p0, hd3'', wrap_succ hl3 hn3, hq3, H⟩, ?_⟩
        exact meas_succ hl3 hn3
    · have hc1 := hc
      clear hc
      obtain rfl := irng_f hd3 hc1
      rw [pair_bare_l3] at hq3
      refine wp_exit ?_
      refine then_exit ?_
      refine then_exit ?_
      have hq3 := Option.some.inj hq3
      subst hq3
      (try dsimp only at hm)
      refine block_exit ?_
      refine then_norm ?_
      refine wp_seq ?_
      refine wp_region_lit ?_
      apply seq_op (V := .slice Ar10 u1.length cr10) rfl
      · exact fun _ h => O_mv rfl rfl h
      (try simp only [PT])
      apply seq_op (V := .slice Ar10 u1.length cr10) rfl
      · exact fun _ h => O_as rfl rfl h
      (try simp only [PT])
      refine list_end ?_
      refine then_norm ?_
      refine wp_ret ?_
      have hm := Option.some.inj hm
      subst hm
      exact ret1 rfl (rv_tmp rfl) rfl ⟨Ar10, cr10, u1.length, s1, rfl, hS, H⟩
def slices_Equal_I_l4 (a1 : List Int) : Nat → List Int → Option ((Bool ⊕ Unit))
  | k4, []  => some (.inr ())
  | k4, x4 :: r4 => (rdI a1 (k4 : Int)).bind fun u1 => if (x4 != u1) = true then (some (.inl false)) else (slices_Equal_I_l4 a1 (k4 + 1) r4)

def slices_Equal_I_f (a0 : List Int) (a1 : List Int) : Option Bool := if ((a0.length : Int) != (a1.length : Int)) = true then (some false) else ((slices_Equal_I_l4 a1 0 a0).bind fun | .inl z4_r => (some z4_r) | .inr () => (some true))

set_option maxHeartbeats 4000000 in
theorem slices_Equal_I_w {E : World} {s : SH} {L : List HP} {w : World} {a0 : List Int} {a1 : List Int} {A_p0 : Option Addr} {c_p0 : Nat} (h_p0 : kI.Sl s (.slice A_p0 a0.length c_p0) a0) {A_p1 : Option Addr} {c_p1 : Nat} (h_p1 : kI.Sl s (.slice A_p1 a1.length c_p1) a1) {R : Bool} (hm : slices_Equal_I_f a0 a1 = some R) (H : Holds E s (L) w) :
    Calls Tryd.prog 23 #[.slice A_p0 a0.length c_p0, .slice A_p1 a1.length c_p1] w fun e w' => e = .returned (.bool R) ∧ Holds E s (L) w' := by
  unfold slices_Equal_I_f at hm
  go_enter Tryd.func23, Tryd.ntmps23
  refine wp_seq ?_
  refine wp_region_lit ?_
  apply seq_op (V := .bool false) rfl
  · exact fun _ h => O_as rfl rfl h
  (try simp only [PT])
  refine list_end ?_
  refine then_norm ?_
  refine wp_seq ?_
  refine wp_seq ?_
  refine wp_region_lit ?_
  apply seq_op (V := .slice A_p0 a0.length c_p0) rfl
  · exact fun _ h => O_mv rfl rfl h
  (try simp only [PT])
  apply seq_op (V := .int .i64 (a0.length : Int)) rfl
  · exact fun _ h => O_len rfl Tryd.underlying27 rfl h
  (try simp only [PT])
  apply seq_op (V := .slice A_p1 a1.length c_p1) rfl
  · exact fun _ h => O_mv rfl rfl h
  (try simp only [PT])
  apply seq_op (V := .int .i64 (a1.length : Int)) rfl
  · exact fun _ h => O_len rfl Tryd.underlying27 rfl h
  (try simp only [PT])
  apply seq_op (V := .bool ((a0.length : Int) != (a1.length : Int))) rfl
  · exact fun _ h => O_bin rfl rfl rfl eqg_int r_neq h
  (try simp only [PT])
  refine list_end ?_
  refine then_norm ?_
  refine wp_cond_split rfl (fun hc => ?_) (fun hc => ?_)
  · have hc1 := hc
    clear hc
    replace hm := ifT hc1 hm
    refine wp_seq ?_
    refine wp_region_lit ?_
    apply seq_op (V := .bool false) rfl
    · exact fun _ h => O_as rfl rfl h
    (try simp only [PT])
    refine list_end ?_
    refine then_norm ?_
    refine wp_ret ?_
    refine then_ret ?_
    have hm := Option.some.inj hm
    subst hm
    exact ret1 rfl (rv_tmp rfl) rfl ⟨rfl, H⟩
  · have hc1 := hc
    clear hc
    replace hm := ifF hc1 hm
    refine wp_skip ?_
    refine then_norm ?_
    refine wp_seq ?_
    refine wp_seq ?_
    refine wp_region_lit ?_
    apply seq_op (V := .slice A_p0 a0.length c_p0) rfl
    · exact fun _ h => O_mv rfl rfl h
    (try simp only [PT])
    apply seq_op (V := .int .i64 (a0.length : Int)) rfl
    · exact fun _ h => O_len rfl Tryd.underlying27 rfl h
    (try simp only [PT])
    apply seq_op (V := .int .i64 0) rfl
    · exact fun _ h => O_mv rfl rfl h
    (try simp only [PT])
    refine list_end ?_
    refine then_norm ?_
    refine wp_block ?_
    obtain ⟨R4, hq4, hm⟩ := bs hm
    have hn4 := Nat.le_trans (len_le (d := kI) h_p0 (by decide)) (by decide : (140737488355328 : Nat) ≤ 9223372036854775807)
    refine wp_loopF [none, none, none, none, some 4, some 5, none, none, none, none, none, none, none, some 13, some 14, some 15, some 16, some 17, some 18, some 19, some 20, some 21, some 22, some 23, some 24, some 25] rfl (by simp) (fun f w => ∃ (k4 : Nat) (r4 : List Int), a0.drop k4 = r4 ∧ f 13 = .int .i64 (k4 : Int) ∧ slices_Equal_I_l4 a1 k4 r4 = some R4 ∧ Holds E s (L) w) (fun f w => a0.length - (intOf (f 13)).toNat) ?_ ?_
    · exact ⟨0, a0, rfl, rfl, hq4, H⟩
    · clear H
      intro f w hI
      obtain ⟨k4, r4, hd4, hf13, hq4', H⟩ := hI
      clear hq4; have hq4 := hq4'; clear hq4'
      simp only [ovm, mixM]
      simp only [hf13]; clear hf13
      refine wp_seq ?_
      refine wp_region_lit ?_
      apply seq_op (V := .bool (decide ((k4 : Int) < (a0.length : Int)))) rfl
      · exact fun _ h => O_bin rfl rfl rfl eqg_int r_lss h
      (try simp only [PT])
      refine list_end ?_
      refine then_norm ?_
      refine wp_seq ?_
      refine wp_cond_split rfl (fun hc => ?_) (fun hc => ?_)
      · have hc2 := hc
        clear hc
        obtain ⟨x4, r4', rfl, hd4', hd4'', hl4⟩ := rng_t hd4 hc2
        rw [slices_Equal_I_l4] at hq4
        refine wp_skip ?_
        refine then_norm ?_
        refine wp_seq ?_
        refine wp_block ?_
        refine wp_seq ?_
        refine wp_region_lit ?_
        apply seq_op (V := .int .i64 (k4 : Int)) rfl
        · exact fun _ h => O_mv rfl rfl h
        (try simp only [PT])
        apply seq_op (V := .int .i64 (k4 : Int)) rfl
        · exact fun _ h => O_as rfl rfl h
        (try simp only [PT])
        refine list_end ?_
        refine then_norm ?_
        refine wp_seq ?_
        obtain ⟨be1, oe1, rfl, hCe1, h0e1⟩ := kI_el h_p0 hd4'
        obtain ⟨u1, gx1, hq4⟩ := bs hq4
        obtain ⟨kk1, gk1, gl1, gd1⟩ := rdI_some gx1
        obtain ⟨be2, oe2, rfl, hCe2, h0e2⟩ := kI_el h_p1 gd1
        refine wp_draw_obO (k := 9) (sz := 26) (List.replicate 9 9) (fun _ => []) mixed (by simp) rfl (by kernel_rfl) (by kernel_rfl) (by kernel_rfl) H (by simp only [List.take_succ_cons, List.take_zero]; exact rfl) (by simp only [List.drop_succ_cons, List.drop_zero]; exact rfl)
          (fun y => by simp only [ov, Act.put, List.setIfInBounds_toArray, List.set_cons_succ, List.set_cons_zero, Nat.zero_add, Nat.reduceAdd]; exact rfl) ?_
        apply ObO.valw (V := .slice (some ⟨be1, oe1, none⟩) a0.length c_p0)
        · intro x; rfl
        · intro s' w' y Φ R hs H hG hΦ; refine wantG rfl ?_; refine O_mv rfl rfl ?_; exact hΦ _ _ (Sub.refl _) H
        apply ObO.valw (V := .int .i64 (k4 : Int))
        · intro x; rfl
        · intro s' w' y Φ R hs H hG hΦ; refine wantG rfl ?_; refine O_mv rfl rfl ?_; exact hΦ _ _ (Sub.refl _) H
        apply ObO.valw (V := .pointer (some ⟨be1, oe1 + k4 * 1, none⟩))
        · intro x; rfl
        · intro s' w' y Φ R hs H hG hΦ; simp only [List.nil_append, List.cons_append] at hG; have e0 : y 0 = _ := dh_get hG 0 rfl (by kernel_rfl); have e1 : y 1 = _ := dh_get hG 1 rfl (by kernel_rfl); simp only [e0, e1]; refine wantG rfl ?_; refine O_ix rfl Tryd.underlying27 (Tryd.sizeOf3 _) rfl rfl rfl hl4 ?_; exact hΦ _ _ (Sub.refl _) H
        apply ObO.valw (V := .int .i64 x4)
        · intro x; rfl
        · intro s' w' y Φ R hs H hG hΦ; simp only [List.nil_append, List.cons_append] at hG; have e2 : y 2 = _ := dh_get hG 2 rfl (by kernel_rfl); simp only [e2]; refine wantG rfl ?_; refine G_s1 _ _ rfl (Tryd.isAgg3 _) rfl H (hCe1.mono hs) 0 rfl rfl ?_; exact hΦ _ _ (Sub.refl _) H
        apply ObO.valw (V := .slice (some ⟨be2, oe2, none⟩) a1.length c_p1)
        · intro x; rfl
        · intro s' w' y Φ R hs H hG hΦ; refine wantG rfl ?_; refine O_mv rfl rfl ?_; exact hΦ _ _ (Sub.refl _) H
        apply ObO.valw (V := .int .i64 (k4 : Int))
        · intro x; rfl
        · intro s' w' y Φ R hs H hG hΦ; refine wantG rfl ?_; refine O_mv rfl rfl ?_; exact hΦ _ _ (Sub.refl _) H
        apply ObO.valw (V := .pointer (some ⟨be2, oe2 + kk1 * 1, none⟩))
        · intro x; rfl
        · intro s' w' y Φ R hs H hG hΦ; simp only [List.nil_append, List.cons_append] at hG; have e4 : y 4 = _ := dh_get hG 4 rfl (by kernel_rfl); have e5 : y 5 = _ := dh_get hG 5 rfl (by kernel_rfl); simp only [e4, e5]; refine wantG rfl ?_; refine O_ix rfl Tryd.underlying27 (Tryd.sizeOf3 _) rfl rfl gk1 gl1 ?_; exact hΦ _ _ (Sub.refl _) H
        apply ObO.valw (V := .int .i64 u1)
        · intro x; rfl
        · intro s' w' y Φ R hs H hG hΦ; simp only [List.nil_append, List.cons_append] at hG; have e6 : y 6 = _ := dh_get hG 6 rfl (by kernel_rfl); simp only [e6]; refine wantG rfl ?_; refine G_s1 _ _ rfl (Tryd.isAgg3 _) rfl H (hCe2.mono hs) 0 rfl rfl ?_; exact hΦ _ _ (Sub.refl _) H
        apply ObO.valw (V := .bool (x4 != u1))
        · intro x; rfl
        · intro s' w' y Φ R hs H hG hΦ; simp only [List.nil_append, List.cons_append] at hG; have e3 : y 3 = _ := dh_get hG 3 rfl (by kernel_rfl); have e7 : y 7 = _ := dh_get hG 7 rfl (by kernel_rfl); simp only [e3, e7]; refine wantG rfl ?_; refine O_bin rfl rfl rfl eqg_int r_neq ?_; exact hΦ _ _ (Sub.refl _) H
        clear H
        intro s3 w3 yy hs3 H hG
        replace H := (show Holds _ _ ([] ++ _) _ from H); rw [List.nil_append] at H
        simp only [List.nil_append, List.cons_append] at hG
        have e0 : yy 0 = _ := gh_get hG 0 rfl
        have e1 : yy 1 = _ := gh_get hG 1 rfl
        have e2 : yy 2 = _ := gh_get hG 2 rfl
        have e3 : yy 3 = _ := gh_get hG 3 rfl
        have e4 : yy 4 = _ := gh_get hG 4 rfl
        have e5 : yy 5 = _ := gh_get hG 5 rfl
        have e6 : yy 6 = _ := gh_get hG 6 rfl
        have e7 : yy 7 = _ := gh_get hG 7 rfl
        have e8 : yy 8 = _ := gh_get hG 8 rfl
        simp only [e0, e1, e2, e3, e4, e5, e6, e7, e8]
        clear hG e0 e1 e2 e3 e4 e5 e6 e7 e8
        replace H := H.forget hs3; clear hs3
        refine list_end ?_
        refine then_norm ?_
        refine wp_cond_split rfl (fun hc => ?_) (fun hc => ?_)
        · have hc3 := hc
          clear hc
          replace hq4 := ifT hc3 hq4
          refine wp_seq ?_
          refine wp_region_lit ?_
          apply seq_op (V := .bool false) rfl
          · exact fun _ h => O_as rfl rfl h
          (try simp only [PT])
          refine list_end ?_
          refine then_norm ?_
          refine wp_ret ?_
          refine block_ret ?_
          refine then_ret ?_
          refine then_ret ?_
          refine block_ret ?_
          refine then_ret ?_
          have hq4 := Option.some.inj hq4
          subst hq4
          (try dsimp only at hm)
          have hm := Option.some.inj hm
          subst hm
          exact ret1 rfl (rv_tmp rfl) rfl ⟨rfl, H⟩
        · have hc3 := hc
          clear hc
          replace hq4 := ifF hc3 hq4
          refine wp_skip ?_
          refine block_norm ?_
          refine then_norm ?_
          refine wp_region_lit ?_
          apply seq_op (V := .int .i64 (IntKind.i64.wrap ((k4 : Int) + 1))) rfl
          · exact fun _ h => O_bin rfl rfl rfl eqg_int r_add h
          (try simp only [PT])
          apply seq_op (V := .int .i64 (IntKind.i64.wrap ((k4 : Int) + 1))) rfl
          · exact fun _ h => O_mv rfl rfl h
          (try simp only [PT])
          refine list_end ?_
          refine then_norm ?_
          refine ⟨⟨⟨rfl, rfl, rfl, rfl, rfl, rfl, rfl, rfl, rfl, rfl, rfl, rfl⟩, rfl⟩, ⟨k4 + 1, _, hd4'', wrap_succ hl4 hn4, hq4, H⟩, ?_⟩
          exact meas_succ hl4 hn4
      · have hc2 := hc
        clear hc
        obtain rfl := rng_f hd4 hc2
        rw [slices_Equal_I_l4] at hq4
        refine wp_exit ?_
        refine then_exit ?_
        refine then_exit ?_
        have hq4 := Option.some.inj hq4
        subst hq4
        (try dsimp only at hm)
        refine block_exit ?_
        refine then_norm ?_
        refine wp_seq ?_
        refine wp_region_lit ?_
        apply seq_op (V := .bool true) rfl
        · exact fun _ h => O_as rfl rfl h
        (try simp only [PT])
        refine list_end ?_
        refine then_norm ?_
        refine wp_ret ?_
        have hm := Option.some.inj hm
        subst hm
        exact ret1 rfl (rv_tmp rfl) rfl ⟨rfl, H⟩
def histtext_SameOps_1_f (a0 : Op') (a1 : Op') : Option Bool := if (((((a0.kind == a1.kind) && (a0.key.toList == a1.key.toList)) && (a0.value == a1.value)) && (a0.has == a1.has)) && (a0.isNil == a1.isNil)) = true then ((slices_Equal_I_f a0.list a1.list).bind fun u1 => some u1) else (some false)

set_option maxHeartbeats 4000000 in
theorem histtext_SameOps_1_w {E : World} {s : SH} {L : List HP} {w : World} {a0 : Op'} {a1 : Op'} {A_p0_list : Option Addr} {c_p0_list : Nat} (h_p0_list : kI.Sl s (.slice A_p0_list a0.list.length c_p0_list) a0.list) {A_p1_list : Option Addr} {c_p1_list : Nat} (h_p1_list : kI.Sl s (.slice A_p1_list a1.list.length c_p1_list) a1.list) {R : Bool} (hm : histtext_SameOps_1_f a0 a1 = some R) (H : Holds E s (L) w) :
    Calls Tryd.prog 175 #[.agg #[.int .i64 a0.kind, .string a0.key, .int .i64 a0.value, .slice A_p0_list a0.list.length c_p0_list, .bool a0.has, .bool a0.isNil], .agg #[.int .i64 a1.kind, .string a1.key, .int .i64 a1.value, .slice A_p1_list a1.list.length c_p1_list, .bool a1.has, .bool a1.isNil]] w fun e w' => e = .returned (.bool R) ∧ Holds E s (L) w' := by
  unfold histtext_SameOps_1_f at hm
  go_enter Tryd.func175, Tryd.ntmps175
  refine wp_seq ?_
  refine wp_region_lit ?_
  refine OpG.list rfl ?_; refine B_x 108 _ rfl (v := .agg #[.int .i64 a0.kind, .string a0.key, .int .i64 a0.value, .slice A_p0_list a0.list.length c_p0_list, .bool a0.has, .bool a0.isNil]) rfl H ?_; clear H; intro b2 w1 H; (try simp only [Value.cells] at H)
  (try simp only [PT])
  refine OpG.list rfl ?_; refine B_x 108 _ rfl (v := .agg #[.int .i64 a1.kind, .string a1.key, .int .i64 a1.value, .slice A_p1_list a1.list.length c_p1_list, .bool a1.has, .bool a1.isNil]) rfl H ?_; clear H; intro b3 w1 H; (try simp only [Value.cells] at H)
  (try simp only [PT])
  apply seq_op (V := .bool false) rfl
  · exact fun _ h => O_as rfl rfl h
  (try simp only [PT])
  refine list_end ?_
  refine then_norm ?_
  refine wp_seq ?_
  rcases Bool.eq_false_or_eq_true (((((a0.kind == a1.kind) && (a0.key.toList == a1.key.toList)) && (a0.value == a1.value)) && (a0.has == a1.has)) && (a0.isNil == a1.isNil)) with hg1 | hg1
  · replace hm := ifT hg1 hm
    obtain ⟨u1, gx1, hm⟩ := bs hm
    refine wp_region_lit ?_
    apply seq_op (V := .pointer (some ⟨b2, 0, none⟩)) rfl
    · exact fun _ h => O_fld rfl Tryd.underlying108 rfl (Tryd.sizeOf3 _) rfl h
    (try simp only [PT])
    apply seq_op (V := .int .i64 a0.kind) rfl
    · exact fun _ h => L_1 1 _ _ rfl (Tryd.isAgg3 _) rfl H rfl rfl h
    (try simp only [PT])
    apply seq_op (V := .pointer (some ⟨b3, 0, none⟩)) rfl
    · exact fun _ h => O_fld rfl Tryd.underlying108 rfl (Tryd.sizeOf3 _) rfl h
    (try simp only [PT])
    apply seq_op (V := .int .i64 a1.kind) rfl
    · exact fun _ h => L_1 0 _ _ rfl (Tryd.isAgg3 _) rfl H rfl rfl h
    (try simp only [PT])
    apply seq_op (V := .bool (a0.kind == a1.kind)) rfl
    · exact fun _ h => O_bin rfl rfl rfl eqg_int r_eql h
    (try simp only [PT])
    apply seq_op (V := .bool (a0.kind == a1.kind)) rfl
    · exact fun _ h => O_mv rfl rfl h
    (try simp only [PT])
    refine seq_opg (c := (a0.kind == a1.kind)) (V := .pointer (some ⟨b2, 1, none⟩)) (by first | exact wanted_t rfl rfl rfl | exact wanted_vt rfl rfl rfl) ?_ ?_
    · intro hc Φ hΦ; refine O_fld rfl Tryd.underlying108 rfl (Tryd.sizeOf9 _) rfl ?_; exact hΦ
    (try simp only [PT])
    refine seq_opg (c := (a0.kind == a1.kind)) (V := .string a0.key) (by first | exact wanted_t rfl rfl rfl | exact wanted_vt rfl rfl rfl) ?_ ?_
    · intro hc Φ hΦ; (repeat (first | rw [vg_of hc] | rw [vg_of (and_l hc)] | rw [vg_of (and_l (and_l hc))] | rw [vg_of (and_l (and_l (and_l hc)))] | rw [vg_and hc])); refine L_1 1 _ _ rfl (Tryd.isAgg9 _) rfl H rfl rfl ?_; exact hΦ
    (try simp only [PT])
    refine seq_opg (c := (a0.kind == a1.kind)) (V := .pointer (some ⟨b3, 1, none⟩)) (by first | exact wanted_t rfl rfl rfl | exact wanted_vt rfl rfl rfl) ?_ ?_
    · intro hc Φ hΦ; refine O_fld rfl Tryd.underlying108 rfl (Tryd.sizeOf9 _) rfl ?_; exact hΦ
    (try simp only [PT])
    refine seq_opg (c := (a0.kind == a1.kind)) (V := .string a1.key) (by first | exact wanted_t rfl rfl rfl | exact wanted_vt rfl rfl rfl) ?_ ?_
    · intro hc Φ hΦ; (repeat (first | rw [vg_of hc] | rw [vg_of (and_l hc)] | rw [vg_of (and_l (and_l hc))] | rw [vg_of (and_l (and_l (and_l hc)))] | rw [vg_and hc])); refine L_1 0 _ _ rfl (Tryd.isAgg9 _) rfl H rfl rfl ?_; exact hΦ
    (try simp only [PT])
    refine seq_opg (c := (a0.kind == a1.kind)) (V := .bool (a0.key.toList == a1.key.toList)) (by first | exact wanted_t rfl rfl rfl | exact wanted_vt rfl rfl rfl) ?_ ?_
    · intro hc Φ hΦ; (repeat (first | rw [vg_of hc] | rw [vg_of (and_l hc)] | rw [vg_of (and_l (and_l hc))] | rw [vg_of (and_l (and_l (and_l hc)))] | rw [vg_and hc])); refine O_bin rfl rfl rfl eqg_str r_seq ?_; exact hΦ
    (try simp only [PT])
    apply seq_op (V := .bool ((a0.kind == a1.kind) && (a0.key.toList == a1.key.toList))) rfl
    · exact fun _ h => G_and _ _ _ rfl rfl rfl rfl h
    (try simp only [PT])
    apply seq_op (V := .bool ((a0.kind == a1.kind) && (a0.key.toList == a1.key.toList))) rfl
    · exact fun _ h => O_mv rfl rfl h
    (try simp only [PT])
    refine seq_opg (c := ((a0.kind == a1.kind) && (a0.key.toList == a1.key.toList))) (V := .pointer (some ⟨b2, 2, none⟩)) (by first | exact wanted_t rfl rfl rfl | exact wanted_vt rfl rfl rfl) ?_ ?_
    · intro hc Φ hΦ; refine O_fld rfl Tryd.underlying108 rfl (Tryd.sizeOf3 _) rfl ?_; exact hΦ
    (try simp only [PT])
    refine seq_opg (c := ((a0.kind == a1.kind) && (a0.key.toList == a1.key.toList))) (V := .int .i64 a0.value) (by first | exact wanted_t rfl rfl rfl | exact wanted_vt rfl rfl rfl) ?_ ?_
    · intro hc Φ hΦ; (repeat (first | rw [vg_of hc] | rw [vg_of (and_l hc)] | rw [vg_of (and_l (and_l hc))] | rw [vg_of (and_l (and_l (and_l hc)))] | rw [vg_and hc])); refine L_1 1 _ _ rfl (Tryd.isAgg3 _) rfl H rfl rfl ?_; exact hΦ
    (try simp only [PT])
    refine seq_opg (c := ((a0.kind == a1.kind) && (a0.key.toList == a1.key.toList))) (V := .pointer (some ⟨b3, 2, none⟩)) (by first | exact wanted_t rfl rfl rfl | exact wanted_vt rfl rfl rfl) ?_ ?_
    · intro hc Φ hΦ; refine O_fld rfl Tryd.underlying108 rfl (Tryd.sizeOf3 _) rfl ?_; exact hΦ
    (try simp only [PT])
    refine seq_opg (c := ((a0.kind == a1.kind) && (a0.key.toList == a1.key.toList))) (V := .int .i64 a1.value) (by first | exact wanted_t rfl rfl rfl | exact wanted_vt rfl rfl rfl) ?_ ?_
    · intro hc Φ hΦ; (repeat (first | rw [vg_of hc] | rw [vg_of (and_l hc)] | rw [vg_of (and_l (and_l hc))] | rw [vg_of (and_l (and_l (and_l hc)))] | rw [vg_and hc])); refine L_1 0 _ _ rfl (Tryd.isAgg3 _) rfl H rfl rfl ?_; exact hΦ
    (try simp only [PT])
    refine seq_opg (c := ((a0.kind == a1.kind) && (a0.key.toList == a1.key.toList))) (V := .bool (a0.value == a1.value)) (by first | exact wanted_t rfl rfl rfl | exact wanted_vt rfl rfl rfl) ?_ ?_
    · intro hc Φ hΦ; (repeat (first | rw [vg_of hc] | rw [vg_of (and_l hc)] | rw [vg_of (and_l (and_l hc))] | rw [vg_of (and_l (and_l (and_l hc)))] | rw [vg_and hc])); refine O_bin rfl rfl rfl eqg_int r_eql ?_; exact hΦ
    (try simp only [PT])
    apply seq_op (V := .bool (((a0.kind == a1.kind) && (a0.key.toList == a1.key.toList)) && (a0.value == a1.value))) rfl
    · exact fun _ h => G_and _ _ _ rfl rfl rfl rfl h
    (try simp only [PT])
    apply seq_op (V := .bool (((a0.kind == a1.kind) && (a0.key.toList == a1.key.toList)) && (a0.value == a1.value))) rfl
    · exact fun _ h => O_mv rfl rfl h
    (try simp only [PT])
    refine seq_opg (c := (((a0.kind == a1.kind) && (a0.key.toList == a1.key.toList)) && (a0.value == a1.value))) (V := .pointer (some ⟨b2, 4, none⟩)) (by first | exact wanted_t rfl rfl rfl | exact wanted_vt rfl rfl rfl) ?_ ?_
    · intro hc Φ hΦ; refine O_fld rfl Tryd.underlying108 rfl (Tryd.sizeOf4 _) rfl ?_; exact hΦ
    (try simp only [PT])
    refine seq_opg (c := (((a0.kind == a1.kind) && (a0.key.toList == a1.key.toList)) && (a0.value == a1.value))) (V := .bool a0.has) (by first | exact wanted_t rfl rfl rfl | exact wanted_vt rfl rfl rfl) ?_ ?_
    · intro hc Φ hΦ; (repeat (first | rw [vg_of hc] | rw [vg_of (and_l hc)] | rw [vg_of (and_l (and_l hc))] | rw [vg_of (and_l (and_l (and_l hc)))] | rw [vg_and hc])); refine L_1 1 _ _ rfl (Tryd.isAgg4 _) rfl H rfl rfl ?_; exact hΦ
    (try simp only [PT])
    refine seq_opg (c := (((a0.kind == a1.kind) && (a0.key.toList == a1.key.toList)) && (a0.value == a1.value))) (V := .pointer (some ⟨b3, 4, none⟩)) (by first | exact wanted_t rfl rfl rfl | exact wanted_vt rfl rfl rfl) ?_ ?_
    · intro hc Φ hΦ; refine O_fld rfl Tryd.underlying108 rfl (Tryd.sizeOf4 _) rfl ?_; exact hΦ
    (try simp only [PT])
    refine seq_opg (c := (((a0.kind == a1.kind) && (a0.key.toList == a1.key.toList)) && (a0.value == a1.value))) (V := .bool a1.has) (by first | exact wanted_t rfl rfl rfl | exact wanted_vt rfl rfl rfl) ?_ ?_
    · intro hc Φ hΦ; (repeat (first | rw [vg_of hc] | rw [vg_of (and_l hc)] | rw [vg_of (and_l (and_l hc))] | rw [vg_of (and_l (and_l (and_l hc)))] | rw [vg_and hc])); refine L_1 0 _ _ rfl (Tryd.isAgg4 _) rfl H rfl rfl ?_; exact hΦ
    (try simp only [PT])
    refine seq_opg (c := (((a0.kind == a1.kind) && (a0.key.toList == a1.key.toList)) && (a0.value == a1.value))) (V := .bool (a0.has == a1.has)) (by first | exact wanted_t rfl rfl rfl | exact wanted_vt rfl rfl rfl) ?_ ?_
    · intro hc Φ hΦ; (repeat (first | rw [vg_of hc] | rw [vg_of (and_l hc)] | rw [vg_of (and_l (and_l hc))] | rw [vg_of (and_l (and_l (and_l hc)))] | rw [vg_and hc])); refine O_bin rfl rfl rfl eqg_bool (r_beq Tryd.underlying4) ?_; exact hΦ
    (try simp only [PT])
    apply seq_op (V := .bool ((((a0.kind == a1.kind) && (a0.key.toList == a1.key.toList)) && (a0.value == a1.value)) && (a0.has == a1.has))) rfl
    · exact fun _ h => G_and _ _ _ rfl rfl rfl rfl h
    (try simp only [PT])
    apply seq_op (V := .bool ((((a0.kind == a1.kind) && (a0.key.toList == a1.key.toList)) && (a0.value == a1.value)) && (a0.has == a1.has))) rfl
    · exact fun _ h => O_mv rfl rfl h
    (try simp only [PT])
    refine seq_opg (c := ((((a0.kind == a1.kind) && (a0.key.toList == a1.key.toList)) && (a0.value == a1.value)) && (a0.has == a1.has))) (V := .pointer (some ⟨b2, 5, none⟩)) (by first | exact wanted_t rfl rfl rfl | exact wanted_vt rfl rfl rfl) ?_ ?_
    · intro hc Φ hΦ; refine O_fld rfl Tryd.underlying108 rfl (Tryd.sizeOf4 _) rfl ?_; exact hΦ
    (try simp only [PT])
    refine seq_opg (c := ((((a0.kind == a1.kind) && (a0.key.toList == a1.key.toList)) && (a0.value == a1.value)) && (a0.has == a1.has))) (V := .bool a0.isNil) (by first | exact wanted_t rfl rfl rfl | exact wanted_vt rfl rfl rfl) ?_ ?_
    · intro hc Φ hΦ; (repeat (first | rw [vg_of hc] | rw [vg_of (and_l hc)] | rw [vg_of (and_l (and_l hc))] | rw [vg_of (and_l (and_l (and_l hc)))] | rw [vg_and hc])); refine L_1 1 _ _ rfl (Tryd.isAgg4 _) rfl H rfl rfl ?_; exact hΦ
    (try simp only [PT])
    refine seq_opg (c := ((((a0.kind == a1.kind) && (a0.key.toList == a1.key.toList)) && (a0.value == a1.value)) && (a0.has == a1.has))) (V := .pointer (some ⟨b3, 5, none⟩)) (by first | exact wanted_t rfl rfl rfl | exact wanted_vt rfl rfl rfl) ?_ ?_
    · intro hc Φ hΦ; refine O_fld rfl Tryd.underlying108 rfl (Tryd.sizeOf4 _) rfl ?_; exact hΦ
    (try simp only [PT])
    refine seq_opg (c := ((((a0.kind == a1.kind) && (a0.key.toList == a1.key.toList)) && (a0.value == a1.value)) && (a0.has == a1.has))) (V := .bool a1.isNil) (by first | exact wanted_t rfl rfl rfl | exact wanted_vt rfl rfl rfl) ?_ ?_
    · intro hc Φ hΦ; (repeat (first | rw [vg_of hc] | rw [vg_of (and_l hc)] | rw [vg_of (and_l (and_l hc))] | rw [vg_of (and_l (and_l (and_l hc)))] | rw [vg_and hc])); refine L_1 0 _ _ rfl (Tryd.isAgg4 _) rfl H rfl rfl ?_; exact hΦ
    (try simp only [PT])
    refine seq_opg (c := ((((a0.kind == a1.kind) && (a0.key.toList == a1.key.toList)) && (a0.value == a1.value)) && (a0.has == a1.has))) (V := .bool (a0.isNil == a1.isNil)) (by first | exact wanted_t rfl rfl rfl | exact wanted_vt rfl rfl rfl) ?_ ?_
    · intro hc Φ hΦ; (repeat (first | rw [vg_of hc] | rw [vg_of (and_l hc)] | rw [vg_of (and_l (and_l hc))] | rw [vg_of (and_l (and_l (and_l hc)))] | rw [vg_and hc])); refine O_bin rfl rfl rfl eqg_bool (r_beq Tryd.underlying4) ?_; exact hΦ
    (try simp only [PT])
    apply seq_op (V := .bool (((((a0.kind == a1.kind) && (a0.key.toList == a1.key.toList)) && (a0.value == a1.value)) && (a0.has == a1.has)) && (a0.isNil == a1.isNil))) rfl
    · exact fun _ h => G_and _ _ _ rfl rfl rfl rfl h
    (try simp only [PT])
    apply seq_op (V := .bool (((((a0.kind == a1.kind) && (a0.key.toList == a1.key.toList)) && (a0.value == a1.value)) && (a0.has == a1.has)) && (a0.isNil == a1.isNil))) rfl
    · exact fun _ h => O_mv rfl rfl h
    (try simp only [PT])
    refine seq_opw (V := .pointer (some ⟨b2, 3, none⟩)) ((wanted_t rfl rfl rfl).trans hg1) ?_ ?_
    · exact fun _ h => O_fld rfl Tryd.underlying108 rfl (Tryd.sizeOf27 _) rfl h
    (try simp only [PT])
    refine seq_opw (V := .slice A_p0_list a0.list.length c_p0_list) ((wanted_t rfl rfl rfl).trans hg1) ?_ ?_
    · exact fun _ h => L_1 1 _ _ rfl (Tryd.isAgg27 _) rfl H rfl rfl h
    (try simp only [PT])
    refine seq_opw (V := .pointer (some ⟨b3, 3, none⟩)) ((wanted_t rfl rfl rfl).trans hg1) ?_ ?_
    · exact fun _ h => O_fld rfl Tryd.underlying108 rfl (Tryd.sizeOf27 _) rfl h
    (try simp only [PT])
    refine seq_opw (V := .slice A_p1_list a1.list.length c_p1_list) ((wanted_t rfl rfl rfl).trans hg1) ?_ ?_
    · exact fun _ h => L_1 0 _ _ rfl (Tryd.isAgg27 _) rfl H rfl rfl h
    (try simp only [PT])
    refine seq_callw ((wanted_t rfl rfl rfl).trans hg1) (fun Φ hΦ => by refine O_call2 rfl Tryd.func23 rfl rfl rfl rfl hΦ) (slices_Equal_I_w (a0 := a0.list) (h_p0 := h_p0_list) (a1 := a1.list) (h_p1 := h_p1_list) (hm := gx1) (H := H)) ?_
    clear H
    rintro e w1 ⟨rfl, H⟩; refine ⟨_, rfl, ?_⟩
    (try simp only [PT])
    apply seq_op (V := .bool u1) rfl
    · exact fun _ h => O_pickT rfl rfl hg1 rfl h
    (try simp only [PT])
    apply seq_op (V := .bool u1) rfl
    · exact fun _ h => O_as rfl rfl h
    (try simp only [PT])
    refine list_end ?_
    refine then_norm ?_
    refine wp_ret ?_
    have hm := Option.some.inj hm
    subst hm
    replace H := H.dropAt 1 rfl; simp only [List.eraseIdx_cons_succ, List.eraseIdx_cons_zero] at H
    replace H := H.dropAt 0 rfl; simp only [List.eraseIdx_cons_succ, List.eraseIdx_cons_zero] at H
    exact ret1 rfl (rv_tmp rfl) rfl ⟨rfl, H⟩
  · replace hm := ifF hg1 hm
    refine wp_region_lit ?_
    apply seq_op (V := .pointer (some ⟨b2, 0, none⟩)) rfl
    · exact fun _ h => O_fld rfl Tryd.underlying108 rfl (Tryd.sizeOf3 _) rfl h
    (try simp only [PT])
    apply seq_op (V := .int .i64 a0.kind) rfl
    · exact fun _ h => L_1 1 _ _ rfl (Tryd.isAgg3 _) rfl H rfl rfl h
    (try simp only [PT])
    apply seq_op (V := .pointer (some ⟨b3, 0, none⟩)) rfl
    · exact fun _ h => O_fld rfl Tryd.underlying108 rfl (Tryd.sizeOf3 _) rfl h
    (try simp only [PT])
    apply seq_op (V := .int .i64 a1.kind) rfl
    · exact fun _ h => L_1 0 _ _ rfl (Tryd.isAgg3 _) rfl H rfl rfl h
    (try simp only [PT])
    apply seq_op (V := .bool (a0.kind == a1.kind)) rfl
    · exact fun _ h => O_bin rfl rfl rfl eqg_int r_eql h
    (try simp only [PT])
    apply seq_op (V := .bool (a0.kind == a1.kind)) rfl
    · exact fun _ h => O_mv rfl rfl h
    (try simp only [PT])
    refine seq_opg (c := (a0.kind == a1.kind)) (V := .pointer (some ⟨b2, 1, none⟩)) (by first | exact wanted_t rfl rfl rfl | exact wanted_vt rfl rfl rfl) ?_ ?_
    · intro hc Φ hΦ; refine O_fld rfl Tryd.underlying108 rfl (Tryd.sizeOf9 _) rfl ?_; exact hΦ
    (try simp only [PT])
    refine seq_opg (c := (a0.kind == a1.kind)) (V := .string a0.key) (by first | exact wanted_t rfl rfl rfl | exact wanted_vt rfl rfl rfl) ?_ ?_
    · intro hc Φ hΦ; (repeat (first | rw [vg_of hc] | rw [vg_of (and_l hc)] | rw [vg_of (and_l (and_l hc))] | rw [vg_of (and_l (and_l (and_l hc)))] | rw [vg_and hc])); refine L_1 1 _ _ rfl (Tryd.isAgg9 _) rfl H rfl rfl ?_; exact hΦ
    (try simp only [PT])
    refine seq_opg (c := (a0.kind == a1.kind)) (V := .pointer (some ⟨b3, 1, none⟩)) (by first | exact wanted_t rfl rfl rfl | exact wanted_vt rfl rfl rfl) ?_ ?_
    · intro hc Φ hΦ; refine O_fld rfl Tryd.underlying108 rfl (Tryd.sizeOf9 _) rfl ?_; exact hΦ
    (try simp only [PT])
    refine seq_opg (c := (a0.kind == a1.kind)) (V := .string a1.key) (by first | exact wanted_t rfl rfl rfl | exact wanted_vt rfl rfl rfl) ?_ ?_
    · intro hc Φ hΦ; (repeat (first | rw [vg_of hc] | rw [vg_of (and_l hc)] | rw [vg_of (and_l (and_l hc))] | rw [vg_of (and_l (and_l (and_l hc)))] | rw [vg_and hc])); refine L_1 0 _ _ rfl (Tryd.isAgg9 _) rfl H rfl rfl ?_; exact hΦ
    (try simp only [PT])
    refine seq_opg (c := (a0.kind == a1.kind)) (V := .bool (a0.key.toList == a1.key.toList)) (by first | exact wanted_t rfl rfl rfl | exact wanted_vt rfl rfl rfl) ?_ ?_
    · intro hc Φ hΦ; (repeat (first | rw [vg_of hc] | rw [vg_of (and_l hc)] | rw [vg_of (and_l (and_l hc))] | rw [vg_of (and_l (and_l (and_l hc)))] | rw [vg_and hc])); refine O_bin rfl rfl rfl eqg_str r_seq ?_; exact hΦ
    (try simp only [PT])
    apply seq_op (V := .bool ((a0.kind == a1.kind) && (a0.key.toList == a1.key.toList))) rfl
    · exact fun _ h => G_and _ _ _ rfl rfl rfl rfl h
    (try simp only [PT])
    apply seq_op (V := .bool ((a0.kind == a1.kind) && (a0.key.toList == a1.key.toList))) rfl
    · exact fun _ h => O_mv rfl rfl h
    (try simp only [PT])
    refine seq_opg (c := ((a0.kind == a1.kind) && (a0.key.toList == a1.key.toList))) (V := .pointer (some ⟨b2, 2, none⟩)) (by first | exact wanted_t rfl rfl rfl | exact wanted_vt rfl rfl rfl) ?_ ?_
    · intro hc Φ hΦ; refine O_fld rfl Tryd.underlying108 rfl (Tryd.sizeOf3 _) rfl ?_; exact hΦ
    (try simp only [PT])
    refine seq_opg (c := ((a0.kind == a1.kind) && (a0.key.toList == a1.key.toList))) (V := .int .i64 a0.value) (by first | exact wanted_t rfl rfl rfl | exact wanted_vt rfl rfl rfl) ?_ ?_
    · intro hc Φ hΦ; (repeat (first | rw [vg_of hc] | rw [vg_of (and_l hc)] | rw [vg_of (and_l (and_l hc))] | rw [vg_of (and_l (and_l (and_l hc)))] | rw [vg_and hc])); refine L_1 1 _ _ rfl (Tryd.isAgg3 _) rfl H rfl rfl ?_; exact hΦ
    (try simp only [PT])
    refine seq_opg (c := ((a0.kind == a1.kind) && (a0.key.toList == a1.key.toList))) (V := .pointer (some ⟨b3, 2, none⟩)) (by first | exact wanted_t rfl rfl rfl | exact wanted_vt rfl rfl rfl) ?_ ?_
    · intro hc Φ hΦ; refine O_fld rfl Tryd.underlying108 rfl (Tryd.sizeOf3 _) rfl ?_; exact hΦ
    (try simp only [PT])
    refine seq_opg (c := ((a0.kind == a1.kind) && (a0.key.toList == a1.key.toList))) (V := .int .i64 a1.value) (by first | exact wanted_t rfl rfl rfl | exact wanted_vt rfl rfl rfl) ?_ ?_
    · intro hc Φ hΦ; (repeat (first | rw [vg_of hc] | rw [vg_of (and_l hc)] | rw [vg_of (and_l (and_l hc))] | rw [vg_of (and_l (and_l (and_l hc)))] | rw [vg_and hc])); refine L_1 0 _ _ rfl (Tryd.isAgg3 _) rfl H rfl rfl ?_; exact hΦ
    (try simp only [PT])
    refine seq_opg (c := ((a0.kind == a1.kind) && (a0.key.toList == a1.key.toList))) (V := .bool (a0.value == a1.value)) (by first | exact wanted_t rfl rfl rfl | exact wanted_vt rfl rfl rfl) ?_ ?_
    · intro hc Φ hΦ; (repeat (first | rw [vg_of hc] | rw [vg_of (and_l hc)] | rw [vg_of (and_l (and_l hc))] | rw [vg_of (and_l (and_l (and_l hc)))] | rw [vg_and hc])); refine O_bin rfl rfl rfl eqg_int r_eql ?_; exact hΦ
    (try simp only [PT])
    apply seq_op (V := .bool (((a0.kind == a1.kind) && (a0.key.toList == a1.key.toList)) && (a0.value == a1.value))) rfl
    · exact fun _ h => G_and _ _ _ rfl rfl rfl rfl h
    (try simp only [PT])
    apply seq_op (V := .bool (((a0.kind == a1.kind) && (a0.key.toList == a1.key.toList)) && (a0.value == a1.value))) rfl
    · exact fun _ h => O_mv rfl rfl h
    (try simp only [PT])
    refine seq_opg (c := (((a0.kind == a1.kind) && (a0.key.toList == a1.key.toList)) && (a0.value == a1.value))) (V := .pointer (some ⟨b2, 4, none⟩)) (by first | exact wanted_t rfl rfl rfl | exact wanted_vt rfl rfl rfl) ?_ ?_
    · intro hc Φ hΦ; refine O_fld rfl Tryd.underlying108 rfl (Tryd.sizeOf4 _) rfl ?_; exact hΦ
    (try simp only [PT])
    refine seq_opg (c := (((a0.kind == a1.kind) && (a0.key.toList == a1.key.toList)) && (a0.value == a1.value))) (V := .bool a0.has) (by first | exact wanted_t rfl rfl rfl | exact wanted_vt rfl rfl rfl) ?_ ?_
    · intro hc Φ hΦ; (repeat (first | rw [vg_of hc] | rw [vg_of (and_l hc)] | rw [vg_of (and_l (and_l hc))] | rw [vg_of (and_l (and_l (and_l hc)))] | rw [vg_and hc])); refine L_1 1 _ _ rfl (Tryd.isAgg4 _) rfl H rfl rfl ?_; exact hΦ
    (try simp only [PT])
    refine seq_opg (c := (((a0.kind == a1.kind) && (a0.key.toList == a1.key.toList)) && (a0.value == a1.value))) (V := .pointer (some ⟨b3, 4, none⟩)) (by first | exact wanted_t rfl rfl rfl | exact wanted_vt rfl rfl rfl) ?_ ?_
    · intro hc Φ hΦ; refine O_fld rfl Tryd.underlying108 rfl (Tryd.sizeOf4 _) rfl ?_; exact hΦ
    (try simp only [PT])
    refine seq_opg (c := (((a0.kind == a1.kind) && (a0.key.toList == a1.key.toList)) && (a0.value == a1.value))) (V := .bool a1.has) (by first | exact wanted_t rfl rfl rfl | exact wanted_vt rfl rfl rfl) ?_ ?_
    · intro hc Φ hΦ; (repeat (first | rw [vg_of hc] | rw [vg_of (and_l hc)] | rw [vg_of (and_l (and_l hc))] | rw [vg_of (and_l (and_l (and_l hc)))] | rw [vg_and hc])); refine L_1 0 _ _ rfl (Tryd.isAgg4 _) rfl H rfl rfl ?_; exact hΦ
    (try simp only [PT])
    refine seq_opg (c := (((a0.kind == a1.kind) && (a0.key.toList == a1.key.toList)) && (a0.value == a1.value))) (V := .bool (a0.has == a1.has)) (by first | exact wanted_t rfl rfl rfl | exact wanted_vt rfl rfl rfl) ?_ ?_
    · intro hc Φ hΦ; (repeat (first | rw [vg_of hc] | rw [vg_of (and_l hc)] | rw [vg_of (and_l (and_l hc))] | rw [vg_of (and_l (and_l (and_l hc)))] | rw [vg_and hc])); refine O_bin rfl rfl rfl eqg_bool (r_beq Tryd.underlying4) ?_; exact hΦ
    (try simp only [PT])
    apply seq_op (V := .bool ((((a0.kind == a1.kind) && (a0.key.toList == a1.key.toList)) && (a0.value == a1.value)) && (a0.has == a1.has))) rfl
    · exact fun _ h => G_and _ _ _ rfl rfl rfl rfl h
    (try simp only [PT])
    apply seq_op (V := .bool ((((a0.kind == a1.kind) && (a0.key.toList == a1.key.toList)) && (a0.value == a1.value)) && (a0.has == a1.has))) rfl
    · exact fun _ h => O_mv rfl rfl h
    (try simp only [PT])
    refine seq_opg (c := ((((a0.kind == a1.kind) && (a0.key.toList == a1.key.toList)) && (a0.value == a1.value)) && (a0.has == a1.has))) (V := .pointer (some ⟨b2, 5, none⟩)) (by first | exact wanted_t rfl rfl rfl | exact wanted_vt rfl rfl rfl) ?_ ?_
    · intro hc Φ hΦ; refine O_fld rfl Tryd.underlying108 rfl (Tryd.sizeOf4 _) rfl ?_; exact hΦ
    (try simp only [PT])
    refine seq_opg (c := ((((a0.kind == a1.kind) && (a0.key.toList == a1.key.toList)) && (a0.value == a1.value)) && (a0.has == a1.has))) (V := .bool a0.isNil) (by first | exact wanted_t rfl rfl rfl | exact wanted_vt rfl rfl rfl) ?_ ?_
    · intro hc Φ hΦ; (repeat (first | rw [vg_of hc] | rw [vg_of (and_l hc)] | rw [vg_of (and_l (and_l hc))] | rw [vg_of (and_l (and_l (and_l hc)))] | rw [vg_and hc])); refine L_1 1 _ _ rfl (Tryd.isAgg4 _) rfl H rfl rfl ?_; exact hΦ
    (try simp only [PT])
    refine seq_opg (c := ((((a0.kind == a1.kind) && (a0.key.toList == a1.key.toList)) && (a0.value == a1.value)) && (a0.has == a1.has))) (V := .pointer (some ⟨b3, 5, none⟩)) (by first | exact wanted_t rfl rfl rfl | exact wanted_vt rfl rfl rfl) ?_ ?_
    · intro hc Φ hΦ; refine O_fld rfl Tryd.underlying108 rfl (Tryd.sizeOf4 _) rfl ?_; exact hΦ
    (try simp only [PT])
    refine seq_opg (c := ((((a0.kind == a1.kind) && (a0.key.toList == a1.key.toList)) && (a0.value == a1.value)) && (a0.has == a1.has))) (V := .bool a1.isNil) (by first | exact wanted_t rfl rfl rfl | exact wanted_vt rfl rfl rfl) ?_ ?_
    · intro hc Φ hΦ; (repeat (first | rw [vg_of hc] | rw [vg_of (and_l hc)] | rw [vg_of (and_l (and_l hc))] | rw [vg_of (and_l (and_l (and_l hc)))] | rw [vg_and hc])); refine L_1 0 _ _ rfl (Tryd.isAgg4 _) rfl H rfl rfl ?_; exact hΦ
    (try simp only [PT])
    refine seq_opg (c := ((((a0.kind == a1.kind) && (a0.key.toList == a1.key.toList)) && (a0.value == a1.value)) && (a0.has == a1.has))) (V := .bool (a0.isNil == a1.isNil)) (by first | exact wanted_t rfl rfl rfl | exact wanted_vt rfl rfl rfl) ?_ ?_
    · intro hc Φ hΦ; (repeat (first | rw [vg_of hc] | rw [vg_of (and_l hc)] | rw [vg_of (and_l (and_l hc))] | rw [vg_of (and_l (and_l (and_l hc)))] | rw [vg_and hc])); refine O_bin rfl rfl rfl eqg_bool (r_beq Tryd.underlying4) ?_; exact hΦ
    (try simp only [PT])
    apply seq_op (V := .bool (((((a0.kind == a1.kind) && (a0.key.toList == a1.key.toList)) && (a0.value == a1.value)) && (a0.has == a1.has)) && (a0.isNil == a1.isNil))) rfl
    · exact fun _ h => G_and _ _ _ rfl rfl rfl rfl h
    (try simp only [PT])
    apply seq_op (V := .bool (((((a0.kind == a1.kind) && (a0.key.toList == a1.key.toList)) && (a0.value == a1.value)) && (a0.has == a1.has)) && (a0.isNil == a1.isNil))) rfl
    · exact fun _ h => O_mv rfl rfl h
    (try simp only [PT])
    refine seq_skip ((wanted_t rfl rfl rfl).trans hg1) ?_
    (try simp only [PT])
    refine seq_skip ((wanted_t rfl rfl rfl).trans hg1) ?_
    (try simp only [PT])
    refine seq_skip ((wanted_t rfl rfl rfl).trans hg1) ?_
    (try simp only [PT])
    refine seq_skip ((wanted_t rfl rfl rfl).trans hg1) ?_
    (try simp only [PT])
    refine seq_skip ((wanted_t rfl rfl rfl).trans hg1) ?_
    (try simp only [PT])
    apply seq_op (V := .bool false) rfl
    · exact fun _ h => O_pickF rfl rfl hg1 rfl h
    (try simp only [PT])
    apply seq_op (V := .bool false) rfl
    · exact fun _ h => O_as rfl rfl h
    (try simp only [PT])
    refine list_end ?_
    refine then_norm ?_
    refine wp_ret ?_
    have hm := Option.some.inj hm
    subst hm
    replace H := H.dropAt 1 rfl; simp only [List.eraseIdx_cons_succ, List.eraseIdx_cons_zero] at H
    replace H := H.dropAt 0 rfl; simp only [List.eraseIdx_cons_succ, List.eraseIdx_cons_zero] at H
    exact ret1 rfl (rv_tmp rfl) rfl ⟨rfl, H⟩
def slices_EqualFunc_Op_histtext_SameOps_1_l4 (a1 : List Op') : Nat → List Op' → Option ((Bool ⊕ Unit))
  | k4, []  => some (.inr ())
  | k4, x4 :: r4 => (rdI a1 (k4 : Int)).bind fun u1 => (histtext_SameOps_1_f x4 u1).bind fun u2 => if (!u2) = true then (some (.inl false)) else (slices_EqualFunc_Op_histtext_SameOps_1_l4 a1 (k4 + 1) r4)

def slices_EqualFunc_Op_histtext_SameOps_1_f (a0 : List Op') (a1 : List Op') : Option Bool := if ((a0.length : Int) != (a1.length : Int)) = true then (some false) else ((slices_EqualFunc_Op_histtext_SameOps_1_l4 a1 0 a0).bind fun | .inl z4_r => (some z4_r) | .inr () => (some true))

set_option maxHeartbeats 4000000 in
theorem slices_EqualFunc_Op_histtext_SameOps_1_w {E : World} {s : SH} {L : List HP} {w : World} {a0 : List Op'} {a1 : List Op'} {A_p0 : Option Addr} {c_p0 : Nat} (h_p0 : kOp.Sl s (.slice A_p0 a0.length c_p0) a0) {A_p1 : Option Addr} {c_p1 : Nat} (h_p1 : kOp.Sl s (.slice A_p1 a1.length c_p1) a1) {R : Bool} (hm : slices_EqualFunc_Op_histtext_SameOps_1_f a0 a1 = some R) (H : Holds E s (L) w) :
    Calls Tryd.prog 123 #[.slice A_p0 a0.length c_p0, .slice A_p1 a1.length c_p1, .func (.func 175) #[] #[]] w fun e w' => e = .returned (.bool R) ∧ Holds E s (L) w' := by
  unfold slices_EqualFunc_Op_histtext_SameOps_1_f at hm
  go_enter Tryd.func123, Tryd.ntmps123
  refine wp_seq ?_
  refine wp_region_lit ?_
  apply seq_op (V := .bool false) rfl
  · exact fun _ h => O_as rfl rfl h
  (try simp only [PT])
  refine list_end ?_
  refine then_norm ?_
  refine wp_seq ?_
  refine wp_seq ?_
  refine wp_region_lit ?_
  apply seq_op (V := .slice A_p0 a0.length c_p0) rfl
  · exact fun _ h => O_mv rfl rfl h
  (try simp only [PT])
  apply seq_op (V := .int .i64 (a0.length : Int)) rfl
  · exact fun _ h => O_len rfl Tryd.underlying71 rfl h
  (try simp only [PT])
  apply seq_op (V := .slice A_p1 a1.length c_p1) rfl
  · exact fun _ h => O_mv rfl rfl h
  (try simp only [PT])
  apply seq_op (V := .int .i64 (a1.length : Int)) rfl
  · exact fun _ h => O_len rfl Tryd.underlying71 rfl h
  (try simp only [PT])
  apply seq_op (V := .bool ((a0.length : Int) != (a1.length : Int))) rfl
  · exact fun _ h => O_bin rfl rfl rfl eqg_int r_neq h
  (try simp only [PT])
  refine list_end ?_
  refine then_norm ?_
  refine wp_cond_split rfl (fun hc => ?_) (fun hc => ?_)
  · have hc1 := hc
    clear hc
    replace hm := ifT hc1 hm
    refine wp_seq ?_
    refine wp_region_lit ?_
    apply seq_op (V := .bool false) rfl
    · exact fun _ h => O_as rfl rfl h
    (try simp only [PT])
    refine list_end ?_
    refine then_norm ?_
    refine wp_ret ?_
    refine then_ret ?_
    have hm := Option.some.inj hm
    subst hm
    exact ret1 rfl (rv_tmp rfl) rfl ⟨rfl, H⟩
  · have hc1 := hc
    clear hc
    replace hm := ifF hc1 hm
    refine wp_skip ?_
    refine then_norm ?_
    refine wp_seq ?_
    refine wp_seq ?_
    refine wp_region_lit ?_
    apply seq_op (V := .slice A_p0 a0.length c_p0) rfl
    · exact fun _ h => O_mv rfl rfl h
    (try simp only [PT])
    apply seq_op (V := .int .i64 (a0.length : Int)) rfl
    · exact fun _ h => O_len rfl Tryd.underlying71 rfl h
    (try simp only [PT])
    apply seq_op (V := .int .i64 0) rfl
    · exact fun _ h => O_mv rfl rfl h
    (try simp only [PT])
    refine list_end ?_
    refine then_norm ?_
    refine wp_block ?_
    obtain ⟨R4, hq4, hm⟩ := bs hm
    have hn4 := Nat.le_trans (len_le (d := kOp) h_p0 (by decide)) (by decide : (140737488355328 : Nat) ≤ 9223372036854775807)
    refine wp_loopF [none, none, none, none, none, none, some 6, some 7, some 8, some 9, none, none, none, none, none, none, none, some 17, some 18, some 19, some 20, some 21, some 22, some 23, some 24, some 25, some 26, some 27, some 28, some 29, some 30, some 31] rfl (by simp) (fun f w => ∃ (k4 : Nat) (r4 : List Op'), a0.drop k4 = r4 ∧ f 17 = .int .i64 (k4 : Int) ∧ slices_EqualFunc_Op_histtext_SameOps_1_l4 a1 k4 r4 = some R4 ∧ Holds E s (L) w) (fun f w => a0.length - (intOf (f 17)).toNat) ?_ ?_
    · exact ⟨0, a0, rfl, rfl, hq4, H⟩
    · clear H
      intro f w hI
      obtain ⟨k4, r4, hd4, hf17, hq4', H⟩ := hI
      clear hq4; have hq4 := hq4'; clear hq4'
      simp only [ovm, mixM]
      simp only [hf17]; clear hf17
      refine wp_seq ?_
      refine wp_region_lit ?_
      apply seq_op (V := .bool (decide ((k4 : Int) < (a0.length : Int)))) rfl
      · exact fun _ h => O_bin rfl rfl rfl eqg_int r_lss h
      (try simp only [PT])
      refine list_end ?_
      refine then_norm ?_
      refine wp_seq ?_
      refine wp_cond_split rfl (fun hc => ?_) (fun hc => ?_)
      · have hc2 := hc
        clear hc
        obtain ⟨x4, r4', rfl, hd4', hd4'', hl4⟩ := rng_t hd4 hc2
        rw [slices_EqualFunc_Op_histtext_SameOps_1_l4] at hq4
        refine wp_skip ?_
        refine then_norm ?_
        refine wp_seq ?_
        refine wp_block ?_
        refine wp_seq ?_
        obtain ⟨be1, oe1, A3e1, c3e1, rfl, hCe1, h0e1, h1e1, h2e1, h3e1⟩ := kOp_el h_p0 hd4'
        refine wp_region_lit ?_
        apply seq_op (V := .int .i64 (k4 : Int)) rfl
        · exact fun _ h => O_mv rfl rfl h
        (try simp only [PT])
        apply seq_op (V := .pointer (some ⟨be1, oe1 + k4 * 6, none⟩)) rfl
        · exact fun _ h => O_ix rfl Tryd.underlying71 (Tryd.sizeOf108 _) rfl rfl rfl hl4 h
        (try simp only [PT])
        apply seq_op (V := .agg #[.int .i64 x4.kind, .string x4.key, .int .i64 x4.value, .slice A3e1 x4.list.length c3e1, .bool x4.has, .bool x4.isNil]) rfl
        · exact fun _ h => G_sN _ _ rfl (Tryd.isAgg108 _) rfl H hCe1 (Tryd.sizeOf108 _) h
        (try simp only [PT])
        refine OpG.list rfl ?_; refine G_alloc 108 rfl (Tryd.zeroValue108 _) H ?_; clear H; intro b8 w1 H; (try simp only [Value.cells] at H)
        (try simp only [PT])
        apply seq_op (V := .int .i64 (k4 : Int)) rfl
        · exact fun _ h => O_as rfl rfl h
        (try simp only [PT])
        refine OpG.list rfl ?_; refine G_setNi 0 (c := [.int .i64 x4.kind, .string x4.key, .int .i64 x4.value, .slice A3e1 x4.list.length c3e1, .bool x4.has, .bool x4.isNil]) _ _ _ rfl (Tryd.sizeOf108 _) rfl rfl (by simp [Value.oneCell']) H rfl rfl ?_; clear H; intro w1 H; simp only [List.set_cons_succ, List.set_cons_zero] at H
        (try simp only [PT])
        refine list_end ?_
        refine then_norm ?_
        refine wp_seq ?_
        obtain ⟨u1, gx1, hq4⟩ := bs hq4
        obtain ⟨kk1, gk1, gl1, gd1⟩ := rdI_some gx1
        obtain ⟨be2, oe2, A3e2, c3e2, rfl, hCe2, h0e2, h1e2, h2e2, h3e2⟩ := kOp_el h_p1 gd1
        refine wp_region_lit ?_
        apply seq_op (V := .slice (some ⟨be2, oe2, none⟩) a1.length c_p1) rfl
        · exact fun _ h => O_mv rfl rfl h
        (try simp only [PT])
        apply seq_op (V := .int .i64 (k4 : Int)) rfl
        · exact fun _ h => O_mv rfl rfl h
        (try simp only [PT])
        apply seq_op (V := .pointer (some ⟨be2, oe2 + kk1 * 6, none⟩)) rfl
        · exact fun _ h => O_ix rfl Tryd.underlying71 (Tryd.sizeOf108 _) rfl rfl gk1 gl1 h
        (try simp only [PT])
        apply seq_op (V := .agg #[.int .i64 u1.kind, .string u1.key, .int .i64 u1.value, .slice A3e2 u1.list.length c3e2, .bool u1.has, .bool u1.isNil]) rfl
        · exact fun _ h => G_sN _ _ rfl (Tryd.isAgg108 _) rfl H hCe2 (Tryd.sizeOf108 _) h
        (try simp only [PT])
        refine OpG.list rfl ?_; refine G_alloc 108 rfl (Tryd.zeroValue108 _) H ?_; clear H; intro b9 w1 H; (try simp only [Value.cells] at H)
        (try simp only [PT])
        refine OpG.list rfl ?_; refine G_setNi 0 (c := [.int .i64 u1.kind, .string u1.key, .int .i64 u1.value, .slice A3e2 u1.list.length c3e2, .bool u1.has, .bool u1.isNil]) _ _ _ rfl (Tryd.sizeOf108 _) rfl rfl (by simp [Value.oneCell']) H rfl rfl ?_; clear H; intro w1 H; simp only [List.set_cons_succ, List.set_cons_zero] at H
        (try simp only [PT])
        refine list_end ?_
        refine then_norm ?_
        refine wp_seq ?_
        obtain ⟨u2, gx2, hq4⟩ := bs hq4
        refine wp_region_lit ?_
        apply seq_op (V := .func (.func 175) #[] #[]) rfl
        · exact fun _ h => O_mv rfl rfl h
        (try simp only [PT])
        apply seq_op (V := .agg #[.int .i64 x4.kind, .string x4.key, .int .i64 x4.value, .slice A3e1 x4.list.length c3e1, .bool x4.has, .bool x4.isNil]) rfl
        · exact fun _ h => G_pNi 1 _ _ rfl (Tryd.isAgg108 _) rfl H rfl (Tryd.sizeOf108 _) h
        (try simp only [PT])
        apply seq_op (V := .agg #[.int .i64 u1.kind, .string u1.key, .int .i64 u1.value, .slice A3e2 u1.list.length c3e2, .bool u1.has, .bool u1.isNil]) rfl
        · exact fun _ h => G_pNi 0 _ _ rfl (Tryd.isAgg108 _) rfl H rfl (Tryd.sizeOf108 _) h
        (try simp only [PT])
        refine seq_call rfl (fun Φ hΦ => by refine O_callv2 (args := #[.agg #[.int .i64 x4.kind, .string x4.key, .int .i64 x4.value, .slice A3e1 x4.list.length c3e1, .bool x4.has, .bool x4.isNil], .agg #[.int .i64 u1.kind, .string u1.key, .int .i64 u1.value, .slice A3e2 u1.list.length c3e2, .bool u1.has, .bool u1.isNil]]) (v1 := .agg #[.int .i64 x4.kind, .string x4.key, .int .i64 x4.value, .slice A3e1 x4.list.length c3e1, .bool x4.has, .bool x4.isNil]) (v2 := .agg #[.int .i64 u1.kind, .string u1.key, .int .i64 u1.value, .slice A3e2 u1.list.length c3e2, .bool u1.has, .bool u1.isNil]) rfl Tryd.func175 rfl rfl rfl rfl rfl (by simp only [Array.append_empty]) hΦ) (histtext_SameOps_1_w (a0 := x4) (h_p0_list := h3e1) (a1 := u1) (h_p1_list := h3e2) (hm := gx2) (H := H)) ?_
        clear H
        rintro e w1 ⟨rfl, H⟩; refine ⟨_, rfl, ?_⟩
        (try simp only [PT])
        apply seq_op (V := .bool (!u2)) rfl
        · exact fun _ h => O_not rfl rfl h
        (try simp only [PT])
        refine list_end ?_
        refine then_norm ?_
        refine wp_cond_split rfl (fun hc => ?_) (fun hc => ?_)
        · have hc3 := hc
          clear hc
          replace hq4 := ifT hc3 hq4
          refine wp_seq ?_
          refine wp_region_lit ?_
          apply seq_op (V := .bool false) rfl
          · exact fun _ h => O_as rfl rfl h
          (try simp only [PT])
          refine list_end ?_
          refine then_norm ?_
          refine wp_ret ?_
          refine block_ret ?_
          refine then_ret ?_
          refine then_ret ?_
          refine block_ret ?_
          refine then_ret ?_
          have hq4 := Option.some.inj hq4
          subst hq4
          (try dsimp only at hm)
          have hm := Option.some.inj hm
          subst hm
          replace H := H.dropAt 1 rfl; simp only [List.eraseIdx_cons_succ, List.eraseIdx_cons_zero] at H
          replace H := H.dropAt 0 rfl; simp only [List.eraseIdx_cons_succ, List.eraseIdx_cons_zero] at H
          exact ret1 rfl (rv_tmp rfl) rfl ⟨rfl, H⟩
        · have hc3 := hc
          clear hc
          replace hq4 := ifF hc3 hq4
          refine wp_skip ?_
          refine block_norm ?_
          refine then_norm ?_
          refine wp_region_lit ?_
          apply seq_op (V := .int .i64 (IntKind.i64.wrap ((k4 : Int) + 1))) rfl
          · exact fun _ h => O_bin rfl rfl rfl eqg_int r_add h
          (try simp only [PT])
          apply seq_op (V := .int .i64 (IntKind.i64.wrap ((k4 : Int) + 1))) rfl
          · exact fun _ h => O_mv rfl rfl h
          (try simp only [PT])
          refine list_end ?_
          refine then_norm ?_
          replace H := H.drop
          replace H := H.drop
          refine ⟨⟨⟨rfl, rfl, rfl, rfl, rfl, rfl, rfl, rfl, rfl, rfl, rfl, rfl, rfl, rfl⟩, rfl⟩, ⟨k4 + 1, _, hd4'', wrap_succ hl4 hn4, hq4, H⟩, ?_⟩
          exact meas_succ hl4 hn4
      · have hc2 := hc
        clear hc
        obtain rfl := rng_f hd4 hc2
        rw [slices_EqualFunc_Op_histtext_SameOps_1_l4] at hq4
        refine wp_exit ?_
        refine then_exit ?_
        refine then_exit ?_
        have hq4 := Option.some.inj hq4
        subst hq4
        (try dsimp only at hm)
        refine block_exit ?_
        refine then_norm ?_
        refine wp_seq ?_
        refine wp_region_lit ?_
        apply seq_op (V := .bool true) rfl
        · exact fun _ h => O_as rfl rfl h
        (try simp only [PT])
        refine list_end ?_
        refine then_norm ?_
        refine wp_ret ?_
        have hm := Option.some.inj hm
        subst hm
        exact ret1 rfl (rv_tmp rfl) rfl ⟨rfl, H⟩
def histtext_SameOps_f (a0 : List Op') (a1 : List Op') : Option Bool := (slices_EqualFunc_Op_histtext_SameOps_1_f a0 a1).bind fun u1 => some u1

set_option maxHeartbeats 4000000 in
theorem histtext_SameOps_w {E : World} {s : SH} {L : List HP} {w : World} {a0 : List Op'} {a1 : List Op'} {A_p0 : Option Addr} {c_p0 : Nat} (h_p0 : kOp.Sl s (.slice A_p0 a0.length c_p0) a0) {A_p1 : Option Addr} {c_p1 : Nat} (h_p1 : kOp.Sl s (.slice A_p1 a1.length c_p1) a1) {R : Bool} (hm : histtext_SameOps_f a0 a1 = some R) (H : Holds E s (L) w) :
    Calls Tryd.prog 157 #[.slice A_p0 a0.length c_p0, .slice A_p1 a1.length c_p1] w fun e w' => e = .returned (.bool R) ∧ Holds E s (L) w' := by
  unfold histtext_SameOps_f at hm
  go_enter Tryd.func157, Tryd.ntmps157
  refine wp_seq ?_
  refine wp_region_lit ?_
  apply seq_op (V := .bool false) rfl
  · exact fun _ h => O_as rfl rfl h
  (try simp only [PT])
  refine list_end ?_
  refine then_norm ?_
  refine wp_seq ?_
  obtain ⟨u1, gx1, hm⟩ := bs hm
  refine wp_region_lit ?_
  apply seq_op (V := .slice A_p0 a0.length c_p0) rfl
  · exact fun _ h => O_mv rfl rfl h
  (try simp only [PT])
  apply seq_op (V := .slice A_p1 a1.length c_p1) rfl
  · exact fun _ h => O_mv rfl rfl h
  (try simp only [PT])
  refine seq_call rfl (fun Φ hΦ => by refine O_call3 rfl Tryd.func123 rfl rfl rfl rfl rfl hΦ) (slices_EqualFunc_Op_histtext_SameOps_1_w (a0 := a0) (h_p0 := h_p0) (a1 := a1) (h_p1 := h_p1) (hm := gx1) (H := H)) ?_
  clear H
  rintro e w1 ⟨rfl, H⟩; refine ⟨_, rfl, ?_⟩
  (try simp only [PT])
  apply seq_op (V := .bool u1) rfl
  · exact fun _ h => O_as rfl rfl h
  (try simp only [PT])
  refine list_end ?_
  refine then_norm ?_
  refine wp_ret ?_
  have hm := Option.some.inj hm
  subst hm
  exact ret1 rfl (rv_tmp rfl) rfl ⟨rfl, H⟩
def pair_listed_f (a0 : Op') : Bool := ((a0.kind == 1) || (a0.kind == 2))

set_option maxHeartbeats 4000000 in
theorem pair_listed_w {E : World} {s : SH} {L : List HP} {w : World} {a0 : Op'} {A_p0_list : Option Addr} {c_p0_list : Nat} (h_p0_list : kI.Sl s (.slice A_p0_list a0.list.length c_p0_list) a0.list) (H : Holds E s (L) w) :
    Calls Tryd.prog 159 #[.agg #[.int .i64 a0.kind, .string a0.key, .int .i64 a0.value, .slice A_p0_list a0.list.length c_p0_list, .bool a0.has, .bool a0.isNil]] w fun e w' => e = .returned (.bool (pair_listed_f a0)) ∧ Holds E s (L) w' := by
  obtain ⟨R, hm⟩ : ∃ R, pair_listed_f a0 = R := ⟨_, rfl⟩
  (try rw [hm])
  unfold pair_listed_f at hm
  go_enter Tryd.func159, Tryd.ntmps159
  refine wp_seq ?_
  refine wp_region_lit ?_
  refine OpG.list rfl ?_; refine B_x 108 _ rfl (v := .agg #[.int .i64 a0.kind, .string a0.key, .int .i64 a0.value, .slice A_p0_list a0.list.length c_p0_list, .bool a0.has, .bool a0.isNil]) rfl H ?_; clear H; intro b1 w1 H; (try simp only [Value.cells] at H)
  (try simp only [PT])
  apply seq_op (V := .bool false) rfl
  · exact fun _ h => O_as rfl rfl h
  (try simp only [PT])
  refine list_end ?_
  refine then_norm ?_
  refine wp_seq ?_
  refine wp_region_lit ?_
  apply seq_op (V := .pointer (some ⟨b1, 0, none⟩)) rfl
  · exact fun _ h => O_fld rfl Tryd.underlying108 rfl (Tryd.sizeOf3 _) rfl h
  (try simp only [PT])
  apply seq_op (V := .int .i64 a0.kind) rfl
  · exact fun _ h => L_1 0 _ _ rfl (Tryd.isAgg3 _) rfl H rfl rfl h
  (try simp only [PT])
  apply seq_op (V := .bool (a0.kind == 1)) rfl
  · exact fun _ h => O_bin rfl rfl rfl eqg_int r_eql h
  (try simp only [PT])
  apply seq_op (V := .bool (a0.kind == 1)) rfl
  · exact fun _ h => O_mv rfl rfl h
  (try simp only [PT])
  refine seq_opg (c := (!(a0.kind == 1))) (V := .pointer (some ⟨b1, 0, none⟩)) (by first | exact wanted_f rfl rfl rfl | exact wanted_vf rfl rfl rfl) ?_ ?_
  · intro hc Φ hΦ; refine O_fld rfl Tryd.underlying108 rfl (Tryd.sizeOf3 _) rfl ?_; exact hΦ
  (try simp only [PT])
  refine seq_opg (c := (!(a0.kind == 1))) (V := .int .i64 a0.kind) (by first | exact wanted_f rfl rfl rfl | exact wanted_vf rfl rfl rfl) ?_ ?_
  · intro hc Φ hΦ; (repeat (first | rw [vg_of hc] | rw [vg_of (and_l hc)] | rw [vg_of (and_l (and_l hc))] | rw [vg_of (and_l (and_l (and_l hc)))] | rw [vg_and hc])); refine L_1 0 _ _ rfl (Tryd.isAgg3 _) rfl H rfl rfl ?_; exact hΦ
  (try simp only [PT])
  refine seq_opg (c := (!(a0.kind == 1))) (V := .bool (a0.kind == 2)) (by first | exact wanted_f rfl rfl rfl | exact wanted_vf rfl rfl rfl) ?_ ?_
  · intro hc Φ hΦ; (repeat (first | rw [vg_of hc] | rw [vg_of (and_l hc)] | rw [vg_of (and_l (and_l hc))] | rw [vg_of (and_l (and_l (and_l hc)))] | rw [vg_and hc])); refine O_bin rfl rfl rfl eqg_int r_eql ?_; exact hΦ
  (try simp only [PT])
  apply seq_op (V := .bool ((a0.kind == 1) || (a0.kind == 2))) rfl
  · exact fun _ h => G_or _ _ _ rfl rfl rfl rfl h
  (try simp only [PT])
  apply seq_op (V := .bool ((a0.kind == 1) || (a0.kind == 2))) rfl
  · exact fun _ h => O_as rfl rfl h
  (try simp only [PT])
  refine list_end ?_
  refine then_norm ?_
  refine wp_ret ?_
  subst hm
  replace H := H.dropAt 0 rfl; simp only [List.eraseIdx_cons_succ, List.eraseIdx_cons_zero] at H
  exact ret1 rfl (rv_tmp rfl) rfl ⟨rfl, H⟩
def pair_table_event_l19 (zj18_p2 : Int → Option Int) (zj18_p3 : Int → Option Bool) : Nat → List Op' → (ByteArray → Option Bool) → ((Int × PTab) ⊕ ((ByteArray → Option Bool)))
  | k19, [] , y19_p4 => .inr y19_p4
  | k19, x19 :: r19, y19_p4 => if (((y19_p4 x19.key).isSome) && (!(((y19_p4 x19.key).getD false) == (pair_listed_f x19)))) = true then (.inl (33, (⟨zj18_p2, zj18_p3, y19_p4⟩ : PTab))) else (pair_table_event_l19 zj18_p2 zj18_p3 (k19 + 1) r19 (fset y19_p4 x19.key (pair_listed_f x19)))

def pair_table_event_f (a0 : PTab) (a1 : List Ev) (a2 : Int) : Option (Int × PTab) := (rdI a1 a2).bind fun u1 => ((if ((u1.kind == 1) && (((a0.open_ u1.proc).isSome) || ((a0.gone u1.proc).getD false))) = true then (some (.inl (30, a0))) else (if ((u1.kind != 1) && (!((a0.open_ u1.proc).isSome))) = true then (some (.inl (31, a0))) else (if ((u1.kind == 2) && (slices_ContainsFunc_Op_pair_table_event_2_f u1.ops)) = true then (some (.inl (32, a0))) else (if ((u1.kind != 2) && (slices_ContainsFunc_Op_pair_table_event_1_f u1.ops)) = true then (some (.inl (32, a0))) else (if ((a0.open_ u1.proc).isSome) = true then ((rdI a1 ((a0.open_ u1.proc).getD 0)).bind fun u2 => (pair_bare_f u2.ops).bind fun u72701 => (pair_bare_f u1.ops).bind fun u73001 => (histtext_SameOps_f u72701 u73001).bind fun u73101 => if (!u73101) = true then (some (.inl (32, a0))) else (some (.inr ()))) else (some (.inr ())))))) : Option (((Int × PTab) ⊕ Unit)))).bind fun | .inl zj14_r => (some zj14_r) | .inr () => (letF (if (u1.kind == 1) = true then (fset a0.open_ u1.proc a2, a0.gone) else (fdel a0.open_ u1.proc, fset a0.gone u1.proc (u1.kind == 4))) fun (zj18_p2, zj18_p3) => letF (pair_table_event_l19 zj18_p2 zj18_p3 0 u1.ops a0.kinds) fun | .inl z19_r => (some z19_r) | .inr z19_p4 => (some (0, (⟨zj18_p2, zj18_p3, z19_p4⟩ : PTab))))

set_option maxHeartbeats 4000000 in
theorem pair_table_event_w {E : World} {s : SH} {L : List HP} {w : World} {a0 : PTab} {a1 : List Ev} {a2 : Int} {b_p0 : Nat} {r_p0_open_ : Nat} {r_p0_gone : Nat} {r_p0_kinds : Nat} {A_p1 : Option Addr} {c_p1 : Nat} (h_p1 : kEv.Sl s (.slice A_p1 a1.length c_p1) a1) {R : Int × PTab} (hm : pair_table_event_f a0 a1 a2 = some R) (H : Holds E s (pt b_p0 (.cells #[.map (some r_p0_open_), .map (some r_p0_gone), .map (some r_p0_kinds)] 185 (0, 0)) :: mpF kcI vcI r_p0_open_ a0.open_ :: mpF kcI vcB r_p0_gone a0.gone :: mpF kcS vcB r_p0_kinds a0.kinds :: L) w) :
    Calls Tryd.prog 117 #[.pointer (some ⟨b_p0, 0, none⟩), .slice A_p1 a1.length c_p1, .int .i64 a2] w fun e w' => ∃ ro0_open_ ro0_gone ro0_kinds, e = .returned (.int .i64 R.1) ∧ Holds E s (pt b_p0 (.cells #[.map (some ro0_open_), .map (some ro0_gone), .map (some ro0_kinds)] 185 (0, 0)) :: mpF kcI vcI ro0_open_ R.2.open_ :: mpF kcI vcB ro0_gone R.2.gone :: mpF kcS vcB ro0_kinds R.2.kinds :: L) w' := by
  unfold pair_table_event_f at hm
  go_enter Tryd.func117, Tryd.ntmps117
  refine wp_seq ?_
  refine wp_region_lit ?_
  apply seq_op (V := .int .i64 0) rfl
  · exact fun _ h => O_as rfl rfl h
  (try simp only [PT])
  refine list_end ?_
  refine then_norm ?_
  refine wp_seq ?_
  obtain ⟨u1, gx1, hm⟩ := bs hm
  obtain ⟨kk1, gk1, gl1, gd1⟩ := rdI_some gx1
  obtain ⟨be1, oe1, A2e1, c2e1, rfl, hCe1, h0e1, h1e1, h2e1⟩ := kEv_el h_p1 gd1
  refine wp_region_lit ?_
  apply seq_op (V := .slice (some ⟨be1, oe1, none⟩) a1.length c_p1) rfl
  · exact fun _ h => O_mv rfl rfl h
  (try simp only [PT])
  apply seq_op (V := .int .i64 a2) rfl
  · exact fun _ h => O_mv rfl rfl h
  (try simp only [PT])
  apply seq_op (V := .pointer (some ⟨be1, oe1 + kk1 * 3, none⟩)) rfl
  · exact fun _ h => O_ix rfl Tryd.underlying55 (Tryd.sizeOf73 _) rfl rfl gk1 gl1 h
  (try simp only [PT])
  apply seq_op (V := .agg #[.int .i64 u1.kind, .int .i64 u1.proc, .slice A2e1 u1.ops.length c2e1]) rfl
  · exact fun _ h => G_sN _ _ rfl (Tryd.isAgg73 _) rfl H hCe1 (Tryd.sizeOf73 _) h
  (try simp only [PT])
  refine OpG.list rfl ?_; refine G_alloc 73 rfl (Tryd.zeroValue73 _) H ?_; clear H; intro b7 w1 H; (try simp only [Value.cells] at H)
  (try simp only [PT])
  refine OpG.list rfl ?_; refine G_setNi 0 (c := [.int .i64 u1.kind, .int .i64 u1.proc, .slice A2e1 u1.ops.length c2e1]) _ _ _ rfl (Tryd.sizeOf73 _) rfl rfl (by simp [Value.oneCell']) H rfl rfl ?_; clear H; intro w1 H; simp only [List.set_cons_succ, List.set_cons_zero] at H
  (try simp only [PT])
  refine list_end ?_
  refine then_norm ?_
  refine wp_seq ?_
  refine wp_draw_obO (k := 11) (sz := 146) (List.replicate 11 11) (fun _ => []) mixed (by simp) rfl (by kernel_rfl) (by kernel_rfl) (by kernel_rfl) H (by simp only [List.take_succ_cons, List.take_zero]; exact rfl) (by simp only [List.drop_succ_cons, List.drop_zero]; exact rfl)
    (fun y => by simp only [ov, Act.put, List.setIfInBounds_toArray, List.set_cons_succ, List.set_cons_zero, Nat.zero_add, Nat.reduceAdd]; exact rfl) ?_
  apply ObO.valw (V := .pointer (some ⟨b_p0, 0, none⟩))
  · intro x; rfl
  · intro s' w' y Φ R hs H hG hΦ; refine wantG rfl ?_; refine O_mv rfl rfl ?_; exact hΦ _ _ (Sub.refl _) H
  apply ObO.valw (V := .pointer (some ⟨b_p0, 0, none⟩))
  · intro x; rfl
  · intro s' w' y Φ R hs H hG hΦ; simp only [List.nil_append, List.cons_append] at hG; have e0 : y 0 = _ := dh_get hG 0 rfl (by kernel_rfl); simp only [e0]; refine wantG rfl ?_; refine O_nil rfl rfl ?_; exact hΦ _ _ (Sub.refl _) H
  apply ObO.valw (V := .pointer (some ⟨b_p0, 0, none⟩))
  · intro x; rfl
  · intro s' w' y Φ R hs H hG hΦ; simp only [List.nil_append, List.cons_append] at hG; have e1 : y 1 = _ := dh_get hG 1 rfl (by kernel_rfl); simp only [e1]; refine wantG rfl ?_; refine O_fld rfl Tryd.underlying185 rfl (Tryd.sizeOf34 _) rfl ?_; exact hΦ _ _ (Sub.refl _) H
  apply ObO.valw (V := .map (some r_p0_open_))
  · intro x; rfl
  · intro s' w' y Φ R hs H hG hΦ; simp only [List.nil_append, List.cons_append] at hG; have e2 : y 2 = _ := dh_get hG 2 rfl (by kernel_rfl); simp only [e2]; refine wantG rfl ?_; refine L_1 1 _ _ rfl (Tryd.isAgg34 _) rfl H rfl rfl ?_; exact hΦ _ _ (Sub.refl _) H
  apply ObO.valw (V := .pointer (some ⟨b7, 1, none⟩))
  · intro x; rfl
  · intro s' w' y Φ R hs H hG hΦ; refine wantG rfl ?_; refine O_fld rfl Tryd.underlying73 rfl (Tryd.sizeOf3 _) rfl ?_; exact hΦ _ _ (Sub.refl _) H
  apply ObO.valw (V := .int .i64 u1.proc)
  · intro x; rfl
  · intro s' w' y Φ R hs H hG hΦ; simp only [List.nil_append, List.cons_append] at hG; have e4 : y 4 = _ := dh_get hG 4 rfl (by kernel_rfl); simp only [e4]; refine wantG rfl ?_; refine L_1 0 _ _ rfl (Tryd.isAgg3 _) rfl H rfl rfl ?_; exact hΦ _ _ (Sub.refl _) H
  apply ObO.valw (V := .tuple #[.int .i64 ((a0.open_ u1.proc).getD 0), .bool ((a0.open_ u1.proc).isSome)])
  · intro x; rfl
  · intro s' w' y Φ R hs H hG hΦ; simp only [List.nil_append, List.cons_append] at hG; have e3 : y 3 = _ := dh_get hG 3 rfl (by kernel_rfl); have e5 : y 5 = _ := dh_get hG 5 rfl (by kernel_rfl); simp only [e3, e5]; refine wantG rfl ?_; refine F_get2 mk_I 2 34 _ _ rfl Tryd.underlying34 (k := u1.proc) h1e1 rfl rfl H rfl (Tryd.zeroValue3 _) ?_; exact hΦ _ _ (Sub.refl _) H
  apply ObO.valw (V := .tuple #[.int .i64 ((a0.open_ u1.proc).getD 0), .bool ((a0.open_ u1.proc).isSome)])
  · intro x; rfl
  · intro s' w' y Φ R hs H hG hΦ; simp only [List.nil_append, List.cons_append] at hG; have e6 : y 6 = _ := dh_get hG 6 rfl (by kernel_rfl); simp only [e6]; refine wantG rfl ?_; refine O_mv rfl rfl ?_; exact hΦ _ _ (Sub.refl _) H
  apply ObO.valw (V := .int .i64 ((a0.open_ u1.proc).getD 0))
  · intro x; rfl
  · intro s' w' y Φ R hs H hG hΦ; simp only [List.nil_append, List.cons_append] at hG; have e7 : y 7 = _ := dh_get hG 7 rfl (by kernel_rfl); simp only [e7]; refine wantG rfl ?_; refine O_ext rfl rfl rfl ?_; exact hΦ _ _ (Sub.refl _) H
  apply ObO.valw (V := .bool ((a0.open_ u1.proc).isSome))
  · intro x; rfl
  · intro s' w' y Φ R hs H hG hΦ; simp only [List.nil_append, List.cons_append] at hG; have e7 : y 7 = _ := dh_get hG 7 rfl (by kernel_rfl); simp only [e7]; refine wantG rfl ?_; refine O_ext rfl rfl rfl ?_; exact hΦ _ _ (Sub.refl _) H
  apply ObO.valw (V := .int .i64 ((a0.open_ u1.proc).getD 0))
  · intro x; rfl
  · intro s' w' y Φ R hs H hG hΦ; simp only [List.nil_append, List.cons_append] at hG; have e8 : y 8 = _ := dh_get hG 8 rfl (by kernel_rfl); simp only [e8]; refine wantG rfl ?_; refine O_as rfl rfl ?_; exact hΦ _ _ (Sub.refl _) H
  clear H
  intro s3 w3 yy hs3 H hG
  replace H := (show Holds _ _ ([] ++ _) _ from H); rw [List.nil_append] at H
  simp only [List.nil_append, List.cons_append] at hG
  have e0 : yy 0 = _ := gh_get hG 0 rfl
  have e1 : yy 1 = _ := gh_get hG 1 rfl
  have e2 : yy 2 = _ := gh_get hG 2 rfl
  have e3 : yy 3 = _ := gh_get hG 3 rfl
  have e4 : yy 4 = _ := gh_get hG 4 rfl
  have e5 : yy 5 = _ := gh_get hG 5 rfl
  have e6 : yy 6 = _ := gh_get hG 6 rfl
  have e7 : yy 7 = _ := gh_get hG 7 rfl
  have e8 : yy 8 = _ := gh_get hG 8 rfl
  have e9 : yy 9 = _ := gh_get hG 9 rfl
  have e10 : yy 10 = _ := gh_get hG 10 rfl
  simp only [e0, e1, e2, e3, e4, e5, e6, e7, e8, e9, e10]
  clear hG e0 e1 e2 e3 e4 e5 e6 e7 e8 e9 e10
  replace H := H.forget hs3; clear hs3
  apply seq_op (V := .bool ((a0.open_ u1.proc).isSome)) rfl
  · exact fun _ h => O_as rfl rfl h
  (try simp only [PT])
  refine list_end ?_
  refine then_norm ?_
  refine wp_seq ?_
  refine wp_region_lit ?_
  apply seq_op (V := .pointer (some ⟨b7, 2, none⟩)) rfl
  · exact fun _ h => O_fld rfl Tryd.underlying73 rfl (Tryd.sizeOf71 _) rfl h
  (try simp only [PT])
  apply seq_op (V := .slice A2e1 u1.ops.length c2e1) rfl
  · exact fun _ h => L_1 0 _ _ rfl (Tryd.isAgg71 _) rfl H rfl rfl h
  (try simp only [PT])
  refine seq_call rfl (fun Φ hΦ => by refine O_call2 rfl Tryd.func153 rfl rfl rfl rfl hΦ) (slices_ContainsFunc_Op_pair_table_event_1_w (a0 := u1.ops) (h_p0 := h2e1) (H := H)) ?_
  clear H
  rintro e w1 ⟨rfl, H⟩; refine ⟨_, rfl, ?_⟩
  (try simp only [PT])
  apply seq_op (V := .bool (slices_ContainsFunc_Op_pair_table_event_1_f u1.ops)) rfl
  · exact fun _ h => O_as rfl rfl h
  (try simp only [PT])
  refine list_end ?_
  refine then_norm ?_
  refine wp_seq ?_
  refine wp_region_lit ?_
  apply seq_op (V := .pointer (some ⟨b7, 2, none⟩)) rfl
  · exact fun _ h => O_fld rfl Tryd.underlying73 rfl (Tryd.sizeOf71 _) rfl h
  (try simp only [PT])
  apply seq_op (V := .slice A2e1 u1.ops.length c2e1) rfl
  · exact fun _ h => L_1 0 _ _ rfl (Tryd.isAgg71 _) rfl H rfl rfl h
  (try simp only [PT])
  refine seq_call rfl (fun Φ hΦ => by refine O_call2 rfl Tryd.func153 rfl rfl rfl rfl hΦ) (slices_ContainsFunc_Op_pair_table_event_2_w (a0 := u1.ops) (h_p0 := h2e1) (H := H)) ?_
  clear H
  rintro e w1 ⟨rfl, H⟩; refine ⟨_, rfl, ?_⟩
  (try simp only [PT])
  apply seq_op (V := .bool (slices_ContainsFunc_Op_pair_table_event_2_f u1.ops)) rfl
  · exact fun _ h => O_as rfl rfl h
  (try simp only [PT])
  refine list_end ?_
  refine then_norm ?_
  obtain ⟨Rj14, hqj14, hm⟩ := bs hm
  refine wp_joinF [none, none, none, none, none, none, some 6, none, none, none, none, none, none, none, none, none, none, none, none, none, none, none, none, none, none, none, none, none, none, none, none, none, none, none, none, none, some 36, some 37, some 38, some 39, some 40, some 41, some 42, some 43, some 44, some 45, some 46, some 47, some 48, some 49, some 50, some 51, some 52, some 53, some 54, some 55, some 56, some 57, some 58, some 59, some 60, some 61, some 62, some 63, some 64, some 65, some 66, some 67, some 68, some 69, some 70, some 71, some 72, some 73, some 74, some 75, some 76, some 77, some 78, some 79, some 80, some 81, some 82, some 83, some 84, some 85, some 86, some 87, none, none, none, none, none, none, none, none, none, none, none, none, none, none, none, none, none, none, none, none, none, none, none, none, none, none, none, none, none, none, none, none, none, none, none, none, none, none, none, none, none, none, none, none, none, none, none, none, none, none, none, none, none, none, none, none, none, none] rfl (fun f w => ∃ (sj14 : SH), Sub s sj14 ∧ some (.inr ()) = some Rj14 ∧ Holds E sj14 (pt b7 (.cells #[.int .i64 u1.kind, .int .i64 u1.proc, .slice A2e1 u1.ops.length c2e1] 73 (0, 0)) :: pt b_p0 (.cells #[.map (some r_p0_open_), .map (some r_p0_gone), .map (some r_p0_kinds)] 185 (0, 0)) :: mpF kcI vcI r_p0_open_ a0.open_ :: mpF kcI vcB r_p0_gone a0.gone :: mpF kcS vcB r_p0_kinds a0.kinds :: L) w) ?_ ?_
  · skip
    have hsj14 := Sub.refl s
    refine wp_block ?_
    refine wp_seq ?_
    refine wp_draw_obO (k := 16) (sz := 146) (List.replicate 16 16) (fun _ => []) mixed (by simp) rfl (by kernel_rfl) (by kernel_rfl) (by kernel_rfl) H (by simp only [List.take_succ_cons, List.take_zero]; exact rfl) (by simp only [List.drop_succ_cons, List.drop_zero]; exact rfl)
      (fun y => by simp only [ov, Act.put, List.setIfInBounds_toArray, List.set_cons_succ, List.set_cons_zero, Nat.zero_add, Nat.reduceAdd]; exact rfl) ?_
    apply ObO.valw (V := .pointer (some ⟨b7, 0, none⟩))
    · intro x; rfl
    · intro s' w' y Φ R hs H hG hΦ; refine wantG rfl ?_; refine O_fld rfl Tryd.underlying73 rfl (Tryd.sizeOf3 _) rfl ?_; exact hΦ _ _ (Sub.refl _) H
    apply ObO.valw (V := .int .i64 u1.kind)
    · intro x; rfl
    · intro s' w' y Φ R hs H hG hΦ; simp only [List.nil_append, List.cons_append] at hG; have e0 : y 0 = _ := dh_get hG 0 rfl (by kernel_rfl); simp only [e0]; refine wantG rfl ?_; refine L_1 0 _ _ rfl (Tryd.isAgg3 _) rfl H rfl rfl ?_; exact hΦ _ _ (Sub.refl _) H
    apply ObO.valw (V := .bool (u1.kind == 1))
    · intro x; rfl
    · intro s' w' y Φ R hs H hG hΦ; simp only [List.nil_append, List.cons_append] at hG; have e1 : y 1 = _ := dh_get hG 1 rfl (by kernel_rfl); simp only [e1]; refine wantG rfl ?_; refine O_bin rfl rfl rfl eqg_int r_eql ?_; exact hΦ _ _ (Sub.refl _) H
    apply ObO.valw (V := .bool (u1.kind == 1))
    · intro x; rfl
    · intro s' w' y Φ R hs H hG hΦ; simp only [List.nil_append, List.cons_append] at hG; have e2 : y 2 = _ := dh_get hG 2 rfl (by kernel_rfl); simp only [e2]; refine wantG rfl ?_; refine O_mv rfl rfl ?_; exact hΦ _ _ (Sub.refl _) H
    apply ObO.valg (V := .bool ((a0.open_ u1.proc).isSome)) (c := u1.kind == 1)
    · intro x; rfl
    · intro s' y hG; simp only [List.nil_append, List.cons_append] at hG; have eg : y 3 = _ := dh_get hG 3 rfl (by kernel_rfl); simp only [eg]; first | exact wanted_t rfl rfl rfl | exact wanted_vt rfl rfl rfl
    · intro hc s' w' y Φ R hs H hG hΦ; refine O_mv rfl rfl ?_; exact hΦ _ _ (Sub.refl _) H
    apply ObO.valg (V := .bool ((a0.open_ u1.proc).isSome)) (c := u1.kind == 1)
    · intro x; rfl
    · intro s' y hG; simp only [List.nil_append, List.cons_append] at hG; have eg : y 3 = _ := dh_get hG 3 rfl (by kernel_rfl); simp only [eg]; first | exact wanted_t rfl rfl rfl | exact wanted_vt rfl rfl rfl
    · intro hc s' w' y Φ R hs H hG hΦ; simp only [List.nil_append, List.cons_append] at hG; have e4 : y 4 = _ := dh_get hG 4 rfl (by kernel_rfl); (first | rw [vg_of hc] at e4 | rw [vg_of (and_l hc)] at e4 | rw [vg_of (and_l (and_l hc))] at e4 | rw [vg_of (and_l (and_l (and_l hc)))] at e4 | rw [vg_and hc] at e4 | skip); simp only [e4]; refine O_mv rfl rfl ?_; exact hΦ _ _ (Sub.refl _) H
    apply ObO.valg (V := .pointer (some ⟨b_p0, 0, none⟩)) (c := (u1.kind == 1) && !((a0.open_ u1.proc).isSome))
    · intro x; rfl
    · intro s' y hG; simp only [List.nil_append, List.cons_append] at hG; have eg : y 5 = _ := dh_get hG 5 rfl (by kernel_rfl); simp only [eg]; first | exact wanted_f rfl rfl rfl | exact wanted_vf rfl rfl rfl
    · intro hc s' w' y Φ R hs H hG hΦ; refine O_mv rfl rfl ?_; exact hΦ _ _ (Sub.refl _) H
    apply ObO.valg (V := .pointer (some ⟨b_p0, 0, none⟩)) (c := (u1.kind == 1) && !((a0.open_ u1.proc).isSome))
    · intro x; rfl
    · intro s' y hG; simp only [List.nil_append, List.cons_append] at hG; have eg : y 5 = _ := dh_get hG 5 rfl (by kernel_rfl); simp only [eg]; first | exact wanted_f rfl rfl rfl | exact wanted_vf rfl rfl rfl
    · intro hc s' w' y Φ R hs H hG hΦ; simp only [List.nil_append, List.cons_append] at hG; have e6 : y 6 = _ := dh_get hG 6 rfl (by kernel_rfl); (first | rw [vg_of hc] at e6 | rw [vg_of (and_l hc)] at e6 | rw [vg_of (and_l (and_l hc))] at e6 | rw [vg_of (and_l (and_l (and_l hc)))] at e6 | rw [vg_and hc] at e6 | skip); simp only [e6]; refine O_nil rfl rfl ?_; exact hΦ _ _ (Sub.refl _) H
    apply ObO.valg (V := .pointer (some ⟨b_p0, 1, none⟩)) (c := (u1.kind == 1) && !((a0.open_ u1.proc).isSome))
    · intro x; rfl
    · intro s' y hG; simp only [List.nil_append, List.cons_append] at hG; have eg : y 5 = _ := dh_get hG 5 rfl (by kernel_rfl); simp only [eg]; first | exact wanted_f rfl rfl rfl | exact wanted_vf rfl rfl rfl
    · intro hc s' w' y Φ R hs H hG hΦ; simp only [List.nil_append, List.cons_append] at hG; have e7 : y 7 = _ := dh_get hG 7 rfl (by kernel_rfl); (first | rw [vg_of hc] at e7 | rw [vg_of (and_l hc)] at e7 | rw [vg_of (and_l (and_l hc))] at e7 | rw [vg_of (and_l (and_l (and_l hc)))] at e7 | rw [vg_and hc] at e7 | skip); simp only [e7]; refine O_fld rfl Tryd.underlying185 rfl (Tryd.sizeOf183 _) rfl ?_; exact hΦ _ _ (Sub.refl _) H
    apply ObO.valg (V := .map (some r_p0_gone)) (c := (u1.kind == 1) && !((a0.open_ u1.proc).isSome))
    · intro x; rfl
    · intro s' y hG; simp only [List.nil_append, List.cons_append] at hG; have eg : y 5 = _ := dh_get hG 5 rfl (by kernel_rfl); simp only [eg]; first | exact wanted_f rfl rfl rfl | exact wanted_vf rfl rfl rfl
    · intro hc s' w' y Φ R hs H hG hΦ; simp only [List.nil_append, List.cons_append] at hG; have e8 : y 8 = _ := dh_get hG 8 rfl (by kernel_rfl); (first | rw [vg_of hc] at e8 | rw [vg_of (and_l hc)] at e8 | rw [vg_of (and_l (and_l hc))] at e8 | rw [vg_of (and_l (and_l (and_l hc)))] at e8 | rw [vg_and hc] at e8 | skip); simp only [e8]; refine L_1 1 _ _ rfl (Tryd.isAgg183 _) rfl H rfl rfl ?_; exact hΦ _ _ (Sub.refl _) H
    apply ObO.valg (V := .pointer (some ⟨b7, 1, none⟩)) (c := (u1.kind == 1) && !((a0.open_ u1.proc).isSome))
    · intro x; rfl
    · intro s' y hG; simp only [List.nil_append, List.cons_append] at hG; have eg : y 5 = _ := dh_get hG 5 rfl (by kernel_rfl); simp only [eg]; first | exact wanted_f rfl rfl rfl | exact wanted_vf rfl rfl rfl
    · intro hc s' w' y Φ R hs H hG hΦ; refine O_fld rfl Tryd.underlying73 rfl (Tryd.sizeOf3 _) rfl ?_; exact hΦ _ _ (Sub.refl _) H
    apply ObO.valg (V := .int .i64 u1.proc) (c := (u1.kind == 1) && !((a0.open_ u1.proc).isSome))
    · intro x; rfl
    · intro s' y hG; simp only [List.nil_append, List.cons_append] at hG; have eg : y 5 = _ := dh_get hG 5 rfl (by kernel_rfl); simp only [eg]; first | exact wanted_f rfl rfl rfl | exact wanted_vf rfl rfl rfl
    · intro hc s' w' y Φ R hs H hG hΦ; simp only [List.nil_append, List.cons_append] at hG; have e10 : y 10 = _ := dh_get hG 10 rfl (by kernel_rfl); (first | rw [vg_of hc] at e10 | rw [vg_of (and_l hc)] at e10 | rw [vg_of (and_l (and_l hc))] at e10 | rw [vg_of (and_l (and_l (and_l hc)))] at e10 | rw [vg_and hc] at e10 | skip); simp only [e10]; refine L_1 0 _ _ rfl (Tryd.isAgg3 _) rfl H rfl rfl ?_; exact hΦ _ _ (Sub.refl _) H
    apply ObO.valg (V := .bool ((a0.gone u1.proc).getD false)) (c := (u1.kind == 1) && !((a0.open_ u1.proc).isSome))
    · intro x; rfl
    · intro s' y hG; simp only [List.nil_append, List.cons_append] at hG; have eg : y 5 = _ := dh_get hG 5 rfl (by kernel_rfl); simp only [eg]; first | exact wanted_f rfl rfl rfl | exact wanted_vf rfl rfl rfl
    · intro hc s' w' y Φ R hs H hG hΦ; simp only [List.nil_append, List.cons_append] at hG; have e9 : y 9 = _ := dh_get hG 9 rfl (by kernel_rfl); have e11 : y 11 = _ := dh_get hG 11 rfl (by kernel_rfl); (first | rw [vg_of hc] at e9 | rw [vg_of (and_l hc)] at e9 | rw [vg_of (and_l (and_l hc))] at e9 | rw [vg_of (and_l (and_l (and_l hc)))] at e9 | rw [vg_and hc] at e9 | skip); (first | rw [vg_of hc] at e11 | rw [vg_of (and_l hc)] at e11 | rw [vg_of (and_l (and_l hc))] at e11 | rw [vg_of (and_l (and_l (and_l hc)))] at e11 | rw [vg_and hc] at e11 | skip); simp only [e9, e11]; refine F_get mk_I 3 183 _ _ rfl Tryd.underlying183 (k := u1.proc) h1e1 rfl rfl H rfl (Tryd.zeroValue4 _) ?_; exact hΦ _ _ (Sub.refl _) H
    apply ObO.valg (V := .bool (((a0.open_ u1.proc).isSome) || ((a0.gone u1.proc).getD false))) (c := u1.kind == 1)
    · intro x; rfl
    · intro s' y hG; simp only [List.nil_append, List.cons_append] at hG; have eg : y 3 = _ := dh_get hG 3 rfl (by kernel_rfl); simp only [eg]; first | exact wanted_t rfl rfl rfl | exact wanted_vt rfl rfl rfl
    · intro hc s' w' y Φ R hs H hG hΦ; simp only [List.nil_append, List.cons_append] at hG; have e5 : y 5 = _ := dh_get hG 5 rfl (by kernel_rfl); have e12 : y 12 = _ := dh_get hG 12 rfl (by kernel_rfl); (first | rw [vg_of hc] at e5 | rw [vg_of (and_l hc)] at e5 | rw [vg_of (and_l (and_l hc))] at e5 | rw [vg_of (and_l (and_l (and_l hc)))] at e5 | rw [vg_and hc] at e5 | skip); (first | rw [vg_of hc] at e12 | rw [vg_of (and_l hc)] at e12 | rw [vg_of (and_l (and_l hc))] at e12 | rw [vg_of (and_l (and_l (and_l hc)))] at e12 | rw [vg_and hc] at e12 | skip); simp only [e5, e12]; refine G_or _ _ _ rfl rfl rfl rfl ?_; exact hΦ _ _ (Sub.refl _) H
    apply ObO.valw (V := .bool ((u1.kind == 1) && (((a0.open_ u1.proc).isSome) || ((a0.gone u1.proc).getD false))))
    · intro x; rfl
    · intro s' w' y Φ R hs H hG hΦ; simp only [List.nil_append, List.cons_append] at hG; have e3 : y 3 = _ := dh_get hG 3 rfl (by kernel_rfl); have e13 : y 13 = _ := dh_get hG 13 rfl (by kernel_rfl); simp only [e3, e13]; refine wantG rfl ?_; refine G_and _ _ _ rfl rfl rfl rfl ?_; exact hΦ _ _ (Sub.refl _) H
    apply ObO.valw (V := .bool ((u1.kind == 1) && (((a0.open_ u1.proc).isSome) || ((a0.gone u1.proc).getD false))))
    · intro x; rfl
    · intro s' w' y Φ R hs H hG hΦ; simp only [List.nil_append, List.cons_append] at hG; have e14 : y 14 = _ := dh_get hG 14 rfl (by kernel_rfl); simp only [e14]; refine wantG rfl ?_; refine O_as rfl rfl ?_; exact hΦ _ _ (Sub.refl _) H
    clear H
    intro s3 w3 yy hs3 H hG
    replace H := (show Holds _ _ ([] ++ _) _ from H); rw [List.nil_append] at H
    simp only [List.nil_append, List.cons_append] at hG
    have e0 : yy 0 = _ := gh_get hG 0 rfl
    have e1 : yy 1 = _ := gh_get hG 1 rfl
    have e2 : yy 2 = _ := gh_get hG 2 rfl
    have e3 : yy 3 = _ := gh_get hG 3 rfl
    have e4 : yy 4 = _ := gh_get hG 4 rfl
    have e5 : yy 5 = _ := gh_get hG 5 rfl
    have e6 : yy 6 = _ := gh_get hG 6 rfl
    have e7 : yy 7 = _ := gh_get hG 7 rfl
    have e8 : yy 8 = _ := gh_get hG 8 rfl
    have e9 : yy 9 = _ := gh_get hG 9 rfl
    have e10 : yy 10 = _ := gh_get hG 10 rfl
    have e11 : yy 11 = _ := gh_get hG 11 rfl
    have e12 : yy 12 = _ := gh_get hG 12 rfl
    have e13 : yy 13 = _ := gh_get hG 13 rfl
    have e14 : yy 14 = _ := gh_get hG 14 rfl
    have e15 : yy 15 = _ := gh_get hG 15 rfl
    simp only [e0, e1, e2, e3, e4, e5, e6, e7, e8, e9, e10, e11, e12, e13, e14, e15]
    clear hG e0 e1 e2 e3 e4 e5 e6 e7 e8 e9 e10 e11 e12 e13 e14 e15
    replace H := H.forget hs3; clear hs3
    refine list_end ?_
    refine then_norm ?_
    refine wp_cond_split rfl (fun hc => ?_) (fun hc => ?_)
    · have hc1 := hc
      clear hc
      replace hqj14 := ifT hc1 hqj14
      refine wp_seq ?_
      refine wp_region_lit ?_
      apply seq_op (V := .int .i64 30) rfl
      · exact fun _ h => O_as rfl rfl h
      (try simp only [PT])
      refine list_end ?_
      refine then_norm ?_
      refine wp_ret ?_
      refine block_ret ?_
      refine then_ret ?_
      have hqj14 := Option.some.inj hqj14
      subst hqj14
      (try dsimp only at hm)
      have hm := Option.some.inj hm
      subst hm
      replace H := H.front 4 rfl; simp only [List.eraseIdx_cons_succ, List.eraseIdx_cons_zero] at H
      replace H := H.front 4 rfl; simp only [List.eraseIdx_cons_succ, List.eraseIdx_cons_zero] at H
      replace H := H.front 4 rfl; simp only [List.eraseIdx_cons_succ, List.eraseIdx_cons_zero] at H
      replace H := H.front 4 rfl; simp only [List.eraseIdx_cons_succ, List.eraseIdx_cons_zero] at H
      replace H := H.dropAt 4 rfl; simp only [List.eraseIdx_cons_succ, List.eraseIdx_cons_zero] at H
      exact ret1 rfl (rv_tmp rfl) rfl ⟨r_p0_open_, r_p0_gone, r_p0_kinds, rfl, H⟩
    · have hc1 := hc
      clear hc
      replace hqj14 := ifF hc1 hqj14
      refine wp_seq ?_
      refine wp_region_lit ?_
      apply seq_op (V := .pointer (some ⟨b7, 0, none⟩)) rfl
      · exact fun _ h => O_fld rfl Tryd.underlying73 rfl (Tryd.sizeOf3 _) rfl h
      (try simp only [PT])
      apply seq_op (V := .int .i64 u1.kind) rfl
      · exact fun _ h => L_1 0 _ _ rfl (Tryd.isAgg3 _) rfl H rfl rfl h
      (try simp only [PT])
      apply seq_op (V := .bool (u1.kind != 1)) rfl
      · exact fun _ h => O_bin rfl rfl rfl eqg_int r_neq h
      (try simp only [PT])
      apply seq_op (V := .bool (u1.kind != 1)) rfl
      · exact fun _ h => O_mv rfl rfl h
      (try simp only [PT])
      refine seq_opg (c := (u1.kind != 1)) (V := .bool ((a0.open_ u1.proc).isSome)) (by first | exact wanted_t rfl rfl rfl | exact wanted_vt rfl rfl rfl) ?_ ?_
      · intro hc Φ hΦ; refine O_mv rfl rfl ?_; exact hΦ
      (try simp only [PT])
      refine seq_opg (c := (u1.kind != 1)) (V := .bool (!((a0.open_ u1.proc).isSome))) (by first | exact wanted_t rfl rfl rfl | exact wanted_vt rfl rfl rfl) ?_ ?_
      · intro hc Φ hΦ; (repeat (first | rw [vg_of hc] | rw [vg_of (and_l hc)] | rw [vg_of (and_l (and_l hc))] | rw [vg_of (and_l (and_l (and_l hc)))] | rw [vg_and hc])); refine O_not rfl rfl ?_; exact hΦ
      (try simp only [PT])
      apply seq_op (V := .bool ((u1.kind != 1) && (!((a0.open_ u1.proc).isSome)))) rfl
      · exact fun _ h => G_and _ _ _ rfl rfl rfl rfl h
      (try simp only [PT])
      apply seq_op (V := .bool ((u1.kind != 1) && (!((a0.open_ u1.proc).isSome)))) rfl
      · exact fun _ h => O_as rfl rfl h
      (try simp only [PT])
      refine list_end ?_
      refine then_norm ?_
      refine wp_cond_split rfl (fun hc => ?_) (fun hc => ?_)
      · have hc2 := hc
        clear hc
        replace hqj14 := ifT hc2 hqj14
        refine wp_seq ?_
        refine wp_region_lit ?_
        apply seq_op (V := .int .i64 31) rfl
        · exact fun _ h => O_as rfl rfl h
        (try simp only [PT])
        refine list_end ?_
        refine then_norm ?_
        refine wp_ret ?_
        refine block_ret ?_
        refine then_ret ?_
        have hqj14 := Option.some.inj hqj14
        subst hqj14
        (try dsimp only at hm)
        have hm := Option.some.inj hm
        subst hm
        replace H := H.front 4 rfl; simp only [List.eraseIdx_cons_succ, List.eraseIdx_cons_zero] at H
        replace H := H.front 4 rfl; simp only [List.eraseIdx_cons_succ, List.eraseIdx_cons_zero] at H
        replace H := H.front 4 rfl; simp only [List.eraseIdx_cons_succ, List.eraseIdx_cons_zero] at H
        replace H := H.front 4 rfl; simp only [List.eraseIdx_cons_succ, List.eraseIdx_cons_zero] at H
        replace H := H.dropAt 4 rfl; simp only [List.eraseIdx_cons_succ, List.eraseIdx_cons_zero] at H
        exact ret1 rfl (rv_tmp rfl) rfl ⟨r_p0_open_, r_p0_gone, r_p0_kinds, rfl, H⟩
      · have hc2 := hc
        clear hc
        replace hqj14 := ifF hc2 hqj14
        refine wp_seq ?_
        refine wp_seq ?_
        refine wp_region_lit ?_
        apply seq_op (V := .pointer (some ⟨b7, 0, none⟩)) rfl
        · exact fun _ h => O_fld rfl Tryd.underlying73 rfl (Tryd.sizeOf3 _) rfl h
        (try simp only [PT])
        apply seq_op (V := .int .i64 u1.kind) rfl
        · exact fun _ h => L_1 0 _ _ rfl (Tryd.isAgg3 _) rfl H rfl rfl h
        (try simp only [PT])
        apply seq_op (V := .bool (u1.kind == 2)) rfl
        · exact fun _ h => O_bin rfl rfl rfl eqg_int r_eql h
        (try simp only [PT])
        apply seq_op (V := .bool (u1.kind == 2)) rfl
        · exact fun _ h => O_mv rfl rfl h
        (try simp only [PT])
        refine seq_opg (c := (u1.kind == 2)) (V := .bool (slices_ContainsFunc_Op_pair_table_event_2_f u1.ops)) (by first | exact wanted_t rfl rfl rfl | exact wanted_vt rfl rfl rfl) ?_ ?_
        · intro hc Φ hΦ; refine O_mv rfl rfl ?_; exact hΦ
        (try simp only [PT])
        apply seq_op (V := .bool ((u1.kind == 2) && (slices_ContainsFunc_Op_pair_table_event_2_f u1.ops))) rfl
        · exact fun _ h => G_and _ _ _ rfl rfl rfl rfl h
        (try simp only [PT])
        apply seq_op (V := .bool ((u1.kind == 2) && (slices_ContainsFunc_Op_pair_table_event_2_f u1.ops))) rfl
        · exact fun _ h => O_as rfl rfl h
        (try simp only [PT])
        refine list_end ?_
        refine then_norm ?_
        refine wp_cond_split rfl (fun hc => ?_) (fun hc => ?_)
        · have hc3 := hc
          clear hc
          replace hqj14 := ifT hc3 hqj14
          refine wp_skip ?_
          refine then_norm ?_
          refine wp_cond_true (congrArg Value.bool hc3) ?_
          refine wp_seq ?_
          refine wp_region_lit ?_
          apply seq_op (V := .int .i64 32) rfl
          · exact fun _ h => O_as rfl rfl h
          (try simp only [PT])
          refine list_end ?_
          refine then_norm ?_
          refine wp_ret ?_
          refine block_ret ?_
          refine then_ret ?_
          have hqj14 := Option.some.inj hqj14
          subst hqj14
          (try dsimp only at hm)
          have hm := Option.some.inj hm
          subst hm
          replace H := H.front 4 rfl; simp only [List.eraseIdx_cons_succ, List.eraseIdx_cons_zero] at H
          replace H := H.front 4 rfl; simp only [List.eraseIdx_cons_succ, List.eraseIdx_cons_zero] at H
          replace H := H.front 4 rfl; simp only [List.eraseIdx_cons_succ, List.eraseIdx_cons_zero] at H
          replace H := H.front 4 rfl; simp only [List.eraseIdx_cons_succ, List.eraseIdx_cons_zero] at H
          replace H := H.dropAt 4 rfl; simp only [List.eraseIdx_cons_succ, List.eraseIdx_cons_zero] at H
          exact ret1 rfl (rv_tmp rfl) rfl ⟨r_p0_open_, r_p0_gone, r_p0_kinds, rfl, H⟩
        · have hc3 := hc
          clear hc
          replace hqj14 := ifF hc3 hqj14
          refine wp_region_lit ?_
          apply seq_op (V := .pointer (some ⟨b7, 0, none⟩)) rfl
          · exact fun _ h => O_fld rfl Tryd.underlying73 rfl (Tryd.sizeOf3 _) rfl h
          (try simp only [PT])
          apply seq_op (V := .int .i64 u1.kind) rfl
          · exact fun _ h => L_1 0 _ _ rfl (Tryd.isAgg3 _) rfl H rfl rfl h
          (try simp only [PT])
          apply seq_op (V := .bool (u1.kind != 2)) rfl
          · exact fun _ h => O_bin rfl rfl rfl eqg_int r_neq h
          (try simp only [PT])
          apply seq_op (V := .bool (u1.kind != 2)) rfl
          · exact fun _ h => O_mv rfl rfl h
          (try simp only [PT])
          refine seq_opg (c := (u1.kind != 2)) (V := .bool (slices_ContainsFunc_Op_pair_table_event_1_f u1.ops)) (by first | exact wanted_t rfl rfl rfl | exact wanted_vt rfl rfl rfl) ?_ ?_
          · intro hc Φ hΦ; refine O_mv rfl rfl ?_; exact hΦ
          (try simp only [PT])
          apply seq_op (V := .bool ((u1.kind != 2) && (slices_ContainsFunc_Op_pair_table_event_1_f u1.ops))) rfl
          · exact fun _ h => G_and _ _ _ rfl rfl rfl rfl h
          (try simp only [PT])
          apply seq_op (V := .bool ((u1.kind != 2) && (slices_ContainsFunc_Op_pair_table_event_1_f u1.ops))) rfl
          · exact fun _ h => O_as rfl rfl h
          (try simp only [PT])
          refine list_end ?_
          refine then_norm ?_
          refine wp_cond_split rfl (fun hc => ?_) (fun hc => ?_)
          · have hc4 := hc
            clear hc
            replace hqj14 := ifT hc4 hqj14
            refine wp_seq ?_
            refine wp_region_lit ?_
            apply seq_op (V := .int .i64 32) rfl
            · exact fun _ h => O_as rfl rfl h
            (try simp only [PT])
            refine list_end ?_
            refine then_norm ?_
            refine wp_ret ?_
            refine block_ret ?_
            refine then_ret ?_
            have hqj14 := Option.some.inj hqj14
            subst hqj14
            (try dsimp only at hm)
            have hm := Option.some.inj hm
            subst hm
            replace H := H.front 4 rfl; simp only [List.eraseIdx_cons_succ, List.eraseIdx_cons_zero] at H
            replace H := H.front 4 rfl; simp only [List.eraseIdx_cons_succ, List.eraseIdx_cons_zero] at H
            replace H := H.front 4 rfl; simp only [List.eraseIdx_cons_succ, List.eraseIdx_cons_zero] at H
            replace H := H.front 4 rfl; simp only [List.eraseIdx_cons_succ, List.eraseIdx_cons_zero] at H
            replace H := H.dropAt 4 rfl; simp only [List.eraseIdx_cons_succ, List.eraseIdx_cons_zero] at H
            exact ret1 rfl (rv_tmp rfl) rfl ⟨r_p0_open_, r_p0_gone, r_p0_kinds, rfl, H⟩
          · have hc4 := hc
            clear hc
            replace hqj14 := ifF hc4 hqj14
            refine wp_seq ?_
            rcases Bool.eq_false_or_eq_true ((a0.open_ u1.proc).isSome) with hg1 | hg1
            · replace hqj14 := ifT hg1 hqj14
              obtain ⟨u2, gx2, hqj14⟩ := bs hqj14
              obtain ⟨kk2, gk2, gl2, gd2⟩ := rdI_some gx2
              obtain ⟨A2e2, c2e2, hCe2, h0e2, h1e2, h2e2⟩ := kEv_el2 h_p1 gd2
              obtain ⟨u72701, gx72701, hqj14⟩ := bs hqj14
              obtain ⟨u73001, gx73001, hqj14⟩ := bs hqj14
              obtain ⟨u73101, gx73101, hqj14⟩ := bs hqj14
              refine wp_draw_P (k := 15) (sz := 146) [7, 10, 11, 12, 13, 14] [[false, false, false, false, false, false], [true, false, false, false, false, false], [true, true, false, false, false, false], [true, true, true, false, false, false], [true, true, true, true, false, false], [true, true, true, true, true, false], [true, true, true, true, true, true]] [(0, 0, 1), (1, 1, 2), (2, 2, 3), (3, 3, 4), (4, 4, 5), (5, 5, 6)] [.bool ((a0.open_ u1.proc).isSome), .bool ((a0.open_ u1.proc).isSome), .slice (some ⟨be1, oe1, none⟩) a1.length c_p1, .int .i64 ((a0.open_ u1.proc).getD 0), .pointer (some ⟨be1, oe1 + kk2 * 3, none⟩), .pointer (some ⟨be1, oe1 + kk2 * 3 + 2, none⟩), .slice A2e2 u2.ops.length c2e2, undef, .pointer (some ⟨b7, 2, none⟩), .slice A2e1 u1.ops.length c2e1, undef, undef, undef, undef, undef] [pt b7 (.cells #[.int .i64 u1.kind, .int .i64 u1.proc, .slice A2e1 u1.ops.length c2e1] 73 (0, 0))] [fun w x => ∃ (sc : SH) (Ar727010 : Option Addr) (cr727010 : Nat), Sub s sc ∧ kOp.Sl sc (.slice Ar727010 u72701.length cr727010) u72701 ∧ x 7 = .slice Ar727010 u72701.length cr727010 ∧ Holds E sc (pt b7 (.cells #[.int .i64 u1.kind, .int .i64 u1.proc, .slice A2e1 u1.ops.length c2e1] 73 (0, 0)) :: pt b_p0 (.cells #[.map (some r_p0_open_), .map (some r_p0_gone), .map (some r_p0_kinds)] 185 (0, 0)) :: mpF kcI vcI r_p0_open_ a0.open_ :: mpF kcI vcB r_p0_gone a0.gone :: mpF kcS vcB r_p0_kinds a0.kinds :: L) w, fun w x => ∃ (sc : SH) (Ar727010 : Option Addr) (cr727010 : Nat) (Ar730010 : Option Addr) (cr730010 : Nat), Sub s sc ∧ kOp.Sl sc (.slice Ar727010 u72701.length cr727010) u72701 ∧ kOp.Sl sc (.slice Ar730010 u73001.length cr730010) u73001 ∧ x 7 = .slice Ar727010 u72701.length cr727010 ∧ x 10 = .slice Ar730010 u73001.length cr730010 ∧ Holds E sc (pt b7 (.cells #[.int .i64 u1.kind, .int .i64 u1.proc, .slice A2e1 u1.ops.length c2e1] 73 (0, 0)) :: pt b_p0 (.cells #[.map (some r_p0_open_), .map (some r_p0_gone), .map (some r_p0_kinds)] 185 (0, 0)) :: mpF kcI vcI r_p0_open_ a0.open_ :: mpF kcI vcB r_p0_gone a0.gone :: mpF kcS vcB r_p0_kinds a0.kinds :: L) w, fun w x => ∃ (sc : SH) (Ar727010 : Option Addr) (cr727010 : Nat) (Ar730010 : Option Addr) (cr730010 : Nat), Sub s sc ∧ kOp.Sl sc (.slice Ar727010 u72701.length cr727010) u72701 ∧ kOp.Sl sc (.slice Ar730010 u73001.length cr730010) u73001 ∧ x 7 = .slice Ar727010 u72701.length cr727010 ∧ x 10 = .slice Ar730010 u73001.length cr730010 ∧ x 11 = .bool u73101 ∧ Holds E sc (pt b7 (.cells #[.int .i64 u1.kind, .int .i64 u1.proc, .slice A2e1 u1.ops.length c2e1] 73 (0, 0)) :: pt b_p0 (.cells #[.map (some r_p0_open_), .map (some r_p0_gone), .map (some r_p0_kinds)] 185 (0, 0)) :: mpF kcI vcI r_p0_open_ a0.open_ :: mpF kcI vcB r_p0_gone a0.gone :: mpF kcS vcB r_p0_kinds a0.kinds :: L) w, fun w x => ∃ (sc : SH) (Ar727010 : Option Addr) (cr727010 : Nat) (Ar730010 : Option Addr) (cr730010 : Nat), Sub s sc ∧ kOp.Sl sc (.slice Ar727010 u72701.length cr727010) u72701 ∧ kOp.Sl sc (.slice Ar730010 u73001.length cr730010) u73001 ∧ x 7 = .slice Ar727010 u72701.length cr727010 ∧ x 10 = .slice Ar730010 u73001.length cr730010 ∧ x 11 = .bool u73101 ∧ x 12 = .bool (!u73101) ∧ Holds E sc (pt b7 (.cells #[.int .i64 u1.kind, .int .i64 u1.proc, .slice A2e1 u1.ops.length c2e1] 73 (0, 0)) :: pt b_p0 (.cells #[.map (some r_p0_open_), .map (some r_p0_gone), .map (some r_p0_kinds)] 185 (0, 0)) :: mpF kcI vcI r_p0_open_ a0.open_ :: mpF kcI vcB r_p0_gone a0.gone :: mpF kcS vcB r_p0_kinds a0.kinds :: L) w, fun w x => ∃ (sc : SH) (Ar727010 : Option Addr) (cr727010 : Nat) (Ar730010 : Option Addr) (cr730010 : Nat), Sub s sc ∧ kOp.Sl sc (.slice Ar727010 u72701.length cr727010) u72701 ∧ kOp.Sl sc (.slice Ar730010 u73001.length cr730010) u73001 ∧ x 7 = .slice Ar727010 u72701.length cr727010 ∧ x 10 = .slice Ar730010 u73001.length cr730010 ∧ x 11 = .bool u73101 ∧ x 12 = .bool (!u73101) ∧ x 13 = .bool (!u73101) ∧ Holds E sc (pt b7 (.cells #[.int .i64 u1.kind, .int .i64 u1.proc, .slice A2e1 u1.ops.length c2e1] 73 (0, 0)) :: pt b_p0 (.cells #[.map (some r_p0_open_), .map (some r_p0_gone), .map (some r_p0_kinds)] 185 (0, 0)) :: mpF kcI vcI r_p0_open_ a0.open_ :: mpF kcI vcB r_p0_gone a0.gone :: mpF kcS vcB r_p0_kinds a0.kinds :: L) w, fun w x => ∃ (sc : SH) (Ar727010 : Option Addr) (cr727010 : Nat) (Ar730010 : Option Addr) (cr730010 : Nat), Sub s sc ∧ kOp.Sl sc (.slice Ar727010 u72701.length cr727010) u72701 ∧ kOp.Sl sc (.slice Ar730010 u73001.length cr730010) u73001 ∧ x 7 = .slice Ar727010 u72701.length cr727010 ∧ x 10 = .slice Ar730010 u73001.length cr730010 ∧ x 11 = .bool u73101 ∧ x 12 = .bool (!u73101) ∧ x 13 = .bool (!u73101) ∧ x 14 = .bool (!u73101) ∧ Holds E sc (pt b7 (.cells #[.int .i64 u1.kind, .int .i64 u1.proc, .slice A2e1 u1.ops.length c2e1] 73 (0, 0)) :: pt b_p0 (.cells #[.map (some r_p0_open_), .map (some r_p0_gone), .map (some r_p0_kinds)] 185 (0, 0)) :: mpF kcI vcI r_p0_open_ a0.open_ :: mpF kcI vcB r_p0_gone a0.gone :: mpF kcS vcB r_p0_kinds a0.kinds :: L) w] mixed (by simp) rfl (by kernel_rfl) (by kernel_rfl) (by kernel_rfl) (by simp) rfl H (by simp only [List.take_succ_cons, List.take_zero]; exact rfl) (by simp only [List.drop_succ_cons, List.drop_zero]; exact rfl)
                (fun x => by simp only [ov, Act.put, List.setIfInBounds_toArray, List.set_cons_succ, List.set_cons_zero, Nat.zero_add, Nat.reduceAdd]; exact rfl) ?_ ?_ ?_ ?_
              · refine ⟨?_, ?_, ?_, ?_, ?_, ?_, ?_, trivial⟩
                · intro w x hS; have H : Holds E s (pt b7 (.cells #[.int .i64 u1.kind, .int .i64 u1.proc, .slice A2e1 u1.ops.length c2e1] 73 (0, 0)) :: pt b_p0 (.cells #[.map (some r_p0_open_), .map (some r_p0_gone), .map (some r_p0_kinds)] 185 (0, 0)) :: mpF kcI vcI r_p0_open_ a0.open_ :: mpF kcI vcB r_p0_gone a0.gone :: mpF kcS vcB r_p0_kinds a0.kinds :: L) w := hS; exact ⟨_, _, Sub.refl _, H⟩
                · intro w x hS; obtain ⟨sc, Ar727010, cr727010, hsc, hf72701, e7, H⟩ := hS; exact ⟨_, _, hsc, H⟩
                · intro w x hS; obtain ⟨sc, Ar727010, cr727010, Ar730010, cr730010, hsc, hf72701, hf73001, e7, e10, H⟩ := hS; exact ⟨_, _, hsc, H⟩
                · intro w x hS; obtain ⟨sc, Ar727010, cr727010, Ar730010, cr730010, hsc, hf72701, hf73001, e7, e10, e11, H⟩ := hS; exact ⟨_, _, hsc, H⟩
                · intro w x hS; obtain ⟨sc, Ar727010, cr727010, Ar730010, cr730010, hsc, hf72701, hf73001, e7, e10, e11, e12, H⟩ := hS; exact ⟨_, _, hsc, H⟩
                · intro w x hS; obtain ⟨sc, Ar727010, cr727010, Ar730010, cr730010, hsc, hf72701, hf73001, e7, e10, e11, e12, e13, H⟩ := hS; exact ⟨_, _, hsc, H⟩
                · intro w x hS; obtain ⟨sc, Ar727010, cr727010, Ar730010, cr730010, hsc, hf72701, hf73001, e7, e10, e11, e12, e13, e14, H⟩ := hS; exact ⟨_, _, hsc, H⟩
              · refine ⟨?_, ?_, ?_, ?_, ?_, ?_, ?_, ?_, ?_, ?_, ?_, ?_, ?_, ?_, ?_, trivial⟩
                · refine .inr ?_; intro s' R w' x Φ hs H hx hΦ; refine wantG rfl ?_; refine O_mv rfl rfl ?_; exact hΦ
                · refine .inr ?_; intro s' R w' x Φ hs H hx hΦ; have e0 : x 0 = .bool ((a0.open_ u1.proc).isSome) := hx 0 (by decide) (by decide); simp only [e0]; refine wantG rfl ?_; refine O_mv rfl rfl ?_; exact hΦ
                · refine .inr ?_; intro s' R w' x Φ hs H hx hΦ; have e1 : x 1 = .bool ((a0.open_ u1.proc).isSome) := hx 1 (by decide) (by decide); simp only [e1]; refine wantK ((wanted_t rfl rfl rfl).trans hg1) ?_; refine O_mv rfl rfl ?_; exact hΦ
                · refine .inr ?_; intro s' R w' x Φ hs H hx hΦ; have e1 : x 1 = .bool ((a0.open_ u1.proc).isSome) := hx 1 (by decide) (by decide); simp only [e1]; refine wantK ((wanted_t rfl rfl rfl).trans hg1) ?_; refine O_mv rfl rfl ?_; exact hΦ
                · refine .inr ?_; intro s' R w' x Φ hs H hx hΦ; have e1 : x 1 = .bool ((a0.open_ u1.proc).isSome) := hx 1 (by decide) (by decide); have e2 : x 2 = .slice (some ⟨be1, oe1, none⟩) a1.length c_p1 := hx 2 (by decide) (by decide); have e3 : x 3 = .int .i64 ((a0.open_ u1.proc).getD 0) := hx 3 (by decide) (by decide); simp only [e1, e2, e3]; refine wantK ((wanted_t rfl rfl rfl).trans hg1) ?_; refine O_ix rfl Tryd.underlying55 (Tryd.sizeOf73 _) rfl rfl gk2 gl2 ?_; exact hΦ
                · refine .inr ?_; intro s' R w' x Φ hs H hx hΦ; have e1 : x 1 = .bool ((a0.open_ u1.proc).isSome) := hx 1 (by decide) (by decide); have e4 : x 4 = .pointer (some ⟨be1, oe1 + kk2 * 3, none⟩) := hx 4 (by decide) (by decide); simp only [e1, e4]; refine wantK ((wanted_t rfl rfl rfl).trans hg1) ?_; refine O_fld rfl Tryd.underlying73 rfl (Tryd.sizeOf71 _) rfl ?_; exact hΦ
                · refine .inr ?_; intro s' R w' x Φ hs H hx hΦ; have e1 : x 1 = .bool ((a0.open_ u1.proc).isSome) := hx 1 (by decide) (by decide); have e5 : x 5 = .pointer (some ⟨be1, oe1 + kk2 * 3 + 2, none⟩) := hx 5 (by decide) (by decide); simp only [e1, e5]; refine wantK ((wanted_t rfl rfl rfl).trans hg1) ?_; refine G_s1 _ _ rfl (Tryd.isAgg71 _) rfl H (hCe2.mono hs) 2 rfl rfl ?_; exact hΦ
                · exact .inl (by decide)
                · refine .inr ?_; intro s' R w' x Φ hs H hx hΦ; have e1 : x 1 = .bool ((a0.open_ u1.proc).isSome) := hx 1 (by decide) (by decide); simp only [e1]; refine wantK ((wanted_t rfl rfl rfl).trans hg1) ?_; refine O_fld rfl Tryd.underlying73 rfl (Tryd.sizeOf71 _) rfl ?_; exact hΦ
                · refine .inr ?_; intro s' R w' x Φ hs H hx hΦ; have e1 : x 1 = .bool ((a0.open_ u1.proc).isSome) := hx 1 (by decide) (by decide); have e8 : x 8 = .pointer (some ⟨b7, 2, none⟩) := hx 8 (by decide) (by decide); simp only [e1, e8]; refine wantK ((wanted_t rfl rfl rfl).trans hg1) ?_; refine L_1 0 _ _ rfl (Tryd.isAgg71 _) rfl H rfl rfl ?_; exact hΦ
                · exact .inl (by decide)
                · exact .inl (by decide)
                · exact .inl (by decide)
                · exact .inl (by decide)
                · exact .inl (by decide)
              · refine ⟨?_, ?_, ?_, ?_, ?_, ?_, trivial⟩
                · intro c o S0 S1 hc ho h0 h1; obtain rfl := Option.some.inj hc; obtain rfl := Option.some.inj ho; obtain rfl := Option.some.inj h0; obtain rfl := Option.some.inj h1; intro w' x Φ hS hx hΦ
                  have H : Holds E s (pt b7 (.cells #[.int .i64 u1.kind, .int .i64 u1.proc, .slice A2e1 u1.ops.length c2e1] 73 (0, 0)) :: pt b_p0 (.cells #[.map (some r_p0_open_), .map (some r_p0_gone), .map (some r_p0_kinds)] 185 (0, 0)) :: mpF kcI vcI r_p0_open_ a0.open_ :: mpF kcI vcB r_p0_gone a0.gone :: mpF kcS vcB r_p0_kinds a0.kinds :: L) w' := hS; clear hS
                  have hsc := Sub.refl s
                  have e1 : x 1 = .bool ((a0.open_ u1.proc).isSome) := hx 1 (by decide) (by decide)
                  have e6 : x 6 = .slice A2e2 u2.ops.length c2e2 := hx 6 (by decide) (by decide)
                  simp only [e1, e6]
                  refine wantK ((wanted_t rfl rfl rfl).trans hg1) ?_
                  refine O_call1 rfl Tryd.func158 rfl rfl rfl ?_; refine (pair_bare_w (a0 := u2.ops) (h_p0 := h2e2) (hm := gx72701) (H := H)).mono ?_
                  clear H
                  rintro e w1 ⟨Ar727010, cr727010, nr727010, s72701, rfl, hs', H⟩; refine ⟨_, rfl, ?_⟩
                  obtain rfl := osl_len 0 H rfl
                  replace h_p1 := h_p1.mono hs'
                  replace hCe1 := hCe1.mono hs'
                  replace h2e1 := h2e1.mono hs'
                  replace hCe2 := hCe2.mono hs'
                  replace h2e2 := h2e2.mono hs'
                  replace hsc := hsc.trans hs'
                  skip
                  obtain ⟨s72702, hs', H, hf72701⟩ := Kin.Osl.fr H; replace hf72701 := hf72701.unsh hs'
                  replace h_p1 := h_p1.mono hs'
                  replace hCe1 := hCe1.mono hs'
                  replace h2e1 := h2e1.mono hs'
                  replace hCe2 := hCe2.mono hs'
                  replace h2e2 := h2e2.mono hs'
                  replace hsc := hsc.trans hs'
                  exact hΦ _ _ ⟨s72702, Ar727010, cr727010, hsc, hf72701, updV_same, H⟩
                · intro c o S0 S1 hc ho h0 h1; obtain rfl := Option.some.inj hc; obtain rfl := Option.some.inj ho; obtain rfl := Option.some.inj h0; obtain rfl := Option.some.inj h1; intro w' x Φ hS hx hΦ
                  obtain ⟨sc, Ar727010, cr727010, hsc, hf72701, e7, H⟩ := hS
                  replace h_p1 := h_p1.mono hsc
                  replace hCe1 := hCe1.mono hsc
                  replace h2e1 := h2e1.mono hsc
                  replace hCe2 := hCe2.mono hsc
                  replace h2e2 := h2e2.mono hsc
                  have e1 : x 1 = .bool ((a0.open_ u1.proc).isSome) := hx 1 (by decide) (by decide)
                  have e9 : x 9 = .slice A2e1 u1.ops.length c2e1 := hx 9 (by decide) (by decide)
                  simp only [e1, e9]
                  refine wantK ((wanted_t rfl rfl rfl).trans hg1) ?_
                  refine O_call1 rfl Tryd.func158 rfl rfl rfl ?_; refine (pair_bare_w (a0 := u1.ops) (h_p0 := h2e1) (hm := gx73001) (H := H)).mono ?_
                  clear H
                  rintro e w1 ⟨Ar730010, cr730010, nr730010, s73001, rfl, hs', H⟩; refine ⟨_, rfl, ?_⟩
                  obtain rfl := osl_len 0 H rfl
                  replace h_p1 := h_p1.mono hs'
                  replace hCe1 := hCe1.mono hs'
                  replace h2e1 := h2e1.mono hs'
                  replace hCe2 := hCe2.mono hs'
                  replace h2e2 := h2e2.mono hs'
                  replace hf72701 := hf72701.mono hs'
                  replace hsc := hsc.trans hs'
                  skip
                  obtain ⟨s73002, hs', H, hf73001⟩ := Kin.Osl.fr H; replace hf73001 := hf73001.unsh hs'
                  replace h_p1 := h_p1.mono hs'
                  replace hCe1 := hCe1.mono hs'
                  replace h2e1 := h2e1.mono hs'
                  replace hCe2 := hCe2.mono hs'
                  replace h2e2 := h2e2.mono hs'
                  replace hf72701 := hf72701.mono hs'
                  replace hsc := hsc.trans hs'
                  exact hΦ _ _ ⟨s73002, Ar727010, cr727010, Ar730010, cr730010, hsc, hf72701, hf73001, (updV_ne (by decide)).trans e7, updV_same, H⟩
                · intro c o S0 S1 hc ho h0 h1; obtain rfl := Option.some.inj hc; obtain rfl := Option.some.inj ho; obtain rfl := Option.some.inj h0; obtain rfl := Option.some.inj h1; intro w' x Φ hS hx hΦ
                  obtain ⟨sc, Ar727010, cr727010, Ar730010, cr730010, hsc, hf72701, hf73001, e7, e10, H⟩ := hS
                  replace h_p1 := h_p1.mono hsc
                  replace hCe1 := hCe1.mono hsc
                  replace h2e1 := h2e1.mono hsc
                  replace hCe2 := hCe2.mono hsc
                  replace h2e2 := h2e2.mono hsc
                  have e1 : x 1 = .bool ((a0.open_ u1.proc).isSome) := hx 1 (by decide) (by decide)
                  simp only [e1, e7, e10]
                  refine wantK ((wanted_t rfl rfl rfl).trans hg1) ?_
                  refine O_call2 rfl Tryd.func157 rfl rfl rfl rfl ?_; refine (histtext_SameOps_w (a0 := u72701) (h_p0 := hf72701) (a1 := u73001) (h_p1 := hf73001) (hm := gx73101) (H := H)).mono ?_
                  clear H
                  rintro e w1 ⟨rfl, H⟩; refine ⟨_, rfl, ?_⟩
                  exact hΦ _ _ ⟨sc, Ar727010, cr727010, Ar730010, cr730010, hsc, hf72701, hf73001, (updV_ne (by decide)).trans e7, (updV_ne (by decide)).trans e10, updV_same, H⟩
                · intro c o S0 S1 hc ho h0 h1; obtain rfl := Option.some.inj hc; obtain rfl := Option.some.inj ho; obtain rfl := Option.some.inj h0; obtain rfl := Option.some.inj h1; intro w' x Φ hS hx hΦ
                  obtain ⟨sc, Ar727010, cr727010, Ar730010, cr730010, hsc, hf72701, hf73001, e7, e10, e11, H⟩ := hS
                  replace h_p1 := h_p1.mono hsc
                  replace hCe1 := hCe1.mono hsc
                  replace h2e1 := h2e1.mono hsc
                  replace hCe2 := hCe2.mono hsc
                  replace h2e2 := h2e2.mono hsc
                  have e1 : x 1 = .bool ((a0.open_ u1.proc).isSome) := hx 1 (by decide) (by decide)
                  simp only [e1, e11]
                  refine wantK ((wanted_t rfl rfl rfl).trans hg1) ?_
                  refine O_not rfl rfl ?_
                  exact hΦ _ _ ⟨sc, Ar727010, cr727010, Ar730010, cr730010, hsc, hf72701, hf73001, (updV_ne (by decide)).trans e7, (updV_ne (by decide)).trans e10, (updV_ne (by decide)).trans e11, updV_same, H⟩
                · intro c o S0 S1 hc ho h0 h1; obtain rfl := Option.some.inj hc; obtain rfl := Option.some.inj ho; obtain rfl := Option.some.inj h0; obtain rfl := Option.some.inj h1; intro w' x Φ hS hx hΦ
                  obtain ⟨sc, Ar727010, cr727010, Ar730010, cr730010, hsc, hf72701, hf73001, e7, e10, e11, e12, H⟩ := hS
                  replace h_p1 := h_p1.mono hsc
                  replace hCe1 := hCe1.mono hsc
                  replace h2e1 := h2e1.mono hsc
                  replace hCe2 := hCe2.mono hsc
                  replace h2e2 := h2e2.mono hsc
                  have e1 : x 1 = .bool ((a0.open_ u1.proc).isSome) := hx 1 (by decide) (by decide)
                  simp only [e1, e12]
                  refine wantG rfl ?_
                  refine O_pickT rfl rfl hg1 rfl ?_
                  exact hΦ _ _ ⟨sc, Ar727010, cr727010, Ar730010, cr730010, hsc, hf72701, hf73001, (updV_ne (by decide)).trans e7, (updV_ne (by decide)).trans e10, (updV_ne (by decide)).trans e11, (updV_ne (by decide)).trans e12, updV_same, H⟩
                · intro c o S0 S1 hc ho h0 h1; obtain rfl := Option.some.inj hc; obtain rfl := Option.some.inj ho; obtain rfl := Option.some.inj h0; obtain rfl := Option.some.inj h1; intro w' x Φ hS hx hΦ
                  obtain ⟨sc, Ar727010, cr727010, Ar730010, cr730010, hsc, hf72701, hf73001, e7, e10, e11, e12, e13, H⟩ := hS
                  replace h_p1 := h_p1.mono hsc
                  replace hCe1 := hCe1.mono hsc
                  replace h2e1 := h2e1.mono hsc
                  replace hCe2 := hCe2.mono hsc
                  replace h2e2 := h2e2.mono hsc
                  simp only [e13]
                  refine wantG rfl ?_
                  refine O_as rfl rfl ?_
                  exact hΦ _ _ ⟨sc, Ar727010, cr727010, Ar730010, cr730010, hsc, hf72701, hf73001, (updV_ne (by decide)).trans e7, (updV_ne (by decide)).trans e10, (updV_ne (by decide)).trans e11, (updV_ne (by decide)).trans e12, (updV_ne (by decide)).trans e13, updV_same, H⟩
              · clear H
                intro w' x hS hx
                obtain ⟨sc, Ar727010, cr727010, Ar730010, cr730010, hsc, hf72701, hf73001, e7, e10, e11, e12, e13, e14, H⟩ := hS
                replace h_p1 := h_p1.mono hsc
                replace hCe1 := hCe1.mono hsc
                replace h2e1 := h2e1.mono hsc
                replace hCe2 := hCe2.mono hsc
                replace h2e2 := h2e2.mono hsc
                have hS := hsc
                replace hsj14 := hsj14.trans hsc
                have e0 : x 0 = .bool ((a0.open_ u1.proc).isSome) := hx 0 (by decide) (by decide)
                have e1 : x 1 = .bool ((a0.open_ u1.proc).isSome) := hx 1 (by decide) (by decide)
                have e2 : x 2 = .slice (some ⟨be1, oe1, none⟩) a1.length c_p1 := hx 2 (by decide) (by decide)
                have e3 : x 3 = .int .i64 ((a0.open_ u1.proc).getD 0) := hx 3 (by decide) (by decide)
                have e4 : x 4 = .pointer (some ⟨be1, oe1 + kk2 * 3, none⟩) := hx 4 (by decide) (by decide)
                have e5 : x 5 = .pointer (some ⟨be1, oe1 + kk2 * 3 + 2, none⟩) := hx 5 (by decide) (by decide)
                have e6 : x 6 = .slice A2e2 u2.ops.length c2e2 := hx 6 (by decide) (by decide)
                have e8 : x 8 = .pointer (some ⟨b7, 2, none⟩) := hx 8 (by decide) (by decide)
                have e9 : x 9 = .slice A2e1 u1.ops.length c2e1 := hx 9 (by decide) (by decide)
                simp only [e0, e1, e2, e3, e4, e5, e6, e7, e8, e9, e10, e11, e12, e13, e14]
                clear hx
                refine list_end ?_
                refine then_norm ?_
                refine wp_cond_split rfl (fun hc => ?_) (fun hc => ?_)
                · have hc5 := hc
                  clear hc
                  replace hqj14 := ifT hc5 hqj14
                  refine wp_seq ?_
                  refine wp_region_lit ?_
                  apply seq_op (V := .int .i64 32) rfl
                  · exact fun _ h => O_as rfl rfl h
                  (try simp only [PT])
                  refine list_end ?_
                  refine then_norm ?_
                  refine wp_ret ?_
                  refine block_ret ?_
                  refine then_ret ?_
                  have hqj14 := Option.some.inj hqj14
                  subst hqj14
                  (try dsimp only at hm)
                  have hm := Option.some.inj hm
                  subst hm
                  replace H := H.front 4 rfl; simp only [List.eraseIdx_cons_succ, List.eraseIdx_cons_zero] at H
                  replace H := H.front 4 rfl; simp only [List.eraseIdx_cons_succ, List.eraseIdx_cons_zero] at H
                  replace H := H.front 4 rfl; simp only [List.eraseIdx_cons_succ, List.eraseIdx_cons_zero] at H
                  replace H := H.front 4 rfl; simp only [List.eraseIdx_cons_succ, List.eraseIdx_cons_zero] at H
                  replace H := H.dropAt 4 rfl; simp only [List.eraseIdx_cons_succ, List.eraseIdx_cons_zero] at H
                  replace H := H.forget hS
                  exact ret1 rfl (rv_tmp rfl) rfl ⟨r_p0_open_, r_p0_gone, r_p0_kinds, rfl, H⟩
                · have hc5 := hc
                  clear hc
                  replace hqj14 := ifF hc5 hqj14
                  refine wp_skip ?_
                  refine block_norm ?_
                  refine then_norm ?_
                  exact ⟨⟨⟨rfl, rfl, rfl, rfl, rfl, rfl, rfl, rfl, rfl, rfl, rfl, rfl, rfl, rfl, rfl, rfl, rfl, rfl, rfl, rfl, rfl, rfl, rfl, rfl, rfl, rfl, rfl, rfl, rfl, rfl, rfl, rfl, rfl, rfl, rfl, rfl, rfl, rfl, rfl, rfl, rfl, rfl, rfl, rfl, rfl, rfl, rfl, rfl, rfl, rfl, rfl, rfl, rfl, rfl, rfl, rfl, rfl, rfl, rfl, rfl, rfl, rfl, rfl, rfl, rfl, rfl, rfl, rfl, rfl, rfl, rfl, rfl, rfl, rfl, rfl, rfl, rfl, rfl, rfl, rfl, rfl, rfl, rfl, rfl, rfl, rfl, rfl, rfl, rfl, rfl, rfl, rfl, rfl, rfl⟩, rfl⟩, ⟨sc, hsj14, hqj14, H⟩⟩
            · replace hqj14 := ifF hg1 hqj14
              refine wp_draw_P (k := 15) (sz := 146) [] [[]] [] [.bool ((a0.open_ u1.proc).isSome), .bool ((a0.open_ u1.proc).isSome), undef, undef, undef, undef, undef, undef, undef, undef, undef, undef, undef, .bool false, .bool false] [] [] mixed (by simp) rfl (by kernel_rfl) (by kernel_rfl) (by kernel_rfl) (by simp) rfl H (by simp only [List.take_succ_cons, List.take_zero]; exact rfl) (by simp only [List.drop_succ_cons, List.drop_zero]; exact rfl)
                (fun x => by simp only [ov, Act.put, List.setIfInBounds_toArray, List.set_cons_succ, List.set_cons_zero, Nat.zero_add, Nat.reduceAdd]; exact rfl) ?_ ?_ ?_ ?_
              · refine ⟨?_, trivial⟩
                · intro w x hS; have H : Holds E s (pt b7 (.cells #[.int .i64 u1.kind, .int .i64 u1.proc, .slice A2e1 u1.ops.length c2e1] 73 (0, 0)) :: pt b_p0 (.cells #[.map (some r_p0_open_), .map (some r_p0_gone), .map (some r_p0_kinds)] 185 (0, 0)) :: mpF kcI vcI r_p0_open_ a0.open_ :: mpF kcI vcB r_p0_gone a0.gone :: mpF kcS vcB r_p0_kinds a0.kinds :: L) w := hS; exact ⟨_, _, Sub.refl _, H⟩
              · refine ⟨?_, ?_, ?_, ?_, ?_, ?_, ?_, ?_, ?_, ?_, ?_, ?_, ?_, ?_, ?_, trivial⟩
                · refine .inr ?_; intro s' R w' x Φ hs H hx hΦ; refine wantG rfl ?_; refine O_mv rfl rfl ?_; exact hΦ
                · refine .inr ?_; intro s' R w' x Φ hs H hx hΦ; have e0 : x 0 = .bool ((a0.open_ u1.proc).isSome) := hx 0 (by decide) (by decide); simp only [e0]; refine wantG rfl ?_; refine O_mv rfl rfl ?_; exact hΦ
                · refine .inr ?_; intro s' R w' x Φ hs H hx hΦ; have e1 : x 1 = .bool ((a0.open_ u1.proc).isSome) := hx 1 (by decide) (by decide); simp only [e1]; refine wantU ((wanted_t rfl rfl rfl).trans hg1) ?_; exact hΦ
                · refine .inr ?_; intro s' R w' x Φ hs H hx hΦ; have e1 : x 1 = .bool ((a0.open_ u1.proc).isSome) := hx 1 (by decide) (by decide); simp only [e1]; refine wantU ((wanted_t rfl rfl rfl).trans hg1) ?_; exact hΦ
                · refine .inr ?_; intro s' R w' x Φ hs H hx hΦ; have e1 : x 1 = .bool ((a0.open_ u1.proc).isSome) := hx 1 (by decide) (by decide); simp only [e1]; refine wantU ((wanted_t rfl rfl rfl).trans hg1) ?_; exact hΦ
                · refine .inr ?_; intro s' R w' x Φ hs H hx hΦ; have e1 : x 1 = .bool ((a0.open_ u1.proc).isSome) := hx 1 (by decide) (by decide); simp only [e1]; refine wantU ((wanted_t rfl rfl rfl).trans hg1) ?_; exact hΦ
                · refine .inr ?_; intro s' R w' x Φ hs H hx hΦ; have e1 : x 1 = .bool ((a0.open_ u1.proc).isSome) := hx 1 (by decide) (by decide); simp only [e1]; refine wantU ((wanted_t rfl rfl rfl).trans hg1) ?_; exact hΦ
                · refine .inr ?_; intro s' R w' x Φ hs H hx hΦ; have e1 : x 1 = .bool ((a0.open_ u1.proc).isSome) := hx 1 (by decide) (by decide); simp only [e1]; refine wantU ((wanted_t rfl rfl rfl).trans hg1) ?_; exact hΦ
                · refine .inr ?_; intro s' R w' x Φ hs H hx hΦ; have e1 : x 1 = .bool ((a0.open_ u1.proc).isSome) := hx 1 (by decide) (by decide); simp only [e1]; refine wantU ((wanted_t rfl rfl rfl).trans hg1) ?_; exact hΦ
                · refine .inr ?_; intro s' R w' x Φ hs H hx hΦ; have e1 : x 1 = .bool ((a0.open_ u1.proc).isSome) := hx 1 (by decide) (by decide); simp only [e1]; refine wantU ((wanted_t rfl rfl rfl).trans hg1) ?_; exact hΦ
                · refine .inr ?_; intro s' R w' x Φ hs H hx hΦ; have e1 : x 1 = .bool ((a0.open_ u1.proc).isSome) := hx 1 (by decide) (by decide); simp only [e1]; refine wantU ((wanted_t rfl rfl rfl).trans hg1) ?_; exact hΦ
                · refine .inr ?_; intro s' R w' x Φ hs H hx hΦ; have e1 : x 1 = .bool ((a0.open_ u1.proc).isSome) := hx 1 (by decide) (by decide); simp only [e1]; refine wantU ((wanted_t rfl rfl rfl).trans hg1) ?_; exact hΦ
                · refine .inr ?_; intro s' R w' x Φ hs H hx hΦ; have e1 : x 1 = .bool ((a0.open_ u1.proc).isSome) := hx 1 (by decide) (by decide); simp only [e1]; refine wantU ((wanted_t rfl rfl rfl).trans hg1) ?_; exact hΦ
                · refine .inr ?_; intro s' R w' x Φ hs H hx hΦ; have e1 : x 1 = .bool ((a0.open_ u1.proc).isSome) := hx 1 (by decide) (by decide); have e12 : x 12 = undef := hx 12 (by decide) (by decide); simp only [e1, e12]; refine wantG rfl ?_; refine O_pickF rfl rfl hg1 rfl ?_; exact hΦ
                · refine .inr ?_; intro s' R w' x Φ hs H hx hΦ; have e13 : x 13 = .bool false := hx 13 (by decide) (by decide); simp only [e13]; refine wantG rfl ?_; refine O_as rfl rfl ?_; exact hΦ
              · exact trivial
              · clear H
                intro w' x hS hx
                have H : Holds E s (pt b7 (.cells #[.int .i64 u1.kind, .int .i64 u1.proc, .slice A2e1 u1.ops.length c2e1] 73 (0, 0)) :: pt b_p0 (.cells #[.map (some r_p0_open_), .map (some r_p0_gone), .map (some r_p0_kinds)] 185 (0, 0)) :: mpF kcI vcI r_p0_open_ a0.open_ :: mpF kcI vcB r_p0_gone a0.gone :: mpF kcS vcB r_p0_kinds a0.kinds :: L) w' := hS; clear hS
                have e0 : x 0 = .bool ((a0.open_ u1.proc).isSome) := hx 0 (by decide) (by decide)
                have e1 : x 1 = .bool ((a0.open_ u1.proc).isSome) := hx 1 (by decide) (by decide)
                have e2 : x 2 = undef := hx 2 (by decide) (by decide)
                have e3 : x 3 = undef := hx 3 (by decide) (by decide)
                have e4 : x 4 = undef := hx 4 (by decide) (by decide)
                have e5 : x 5 = undef := hx 5 (by decide) (by decide)
                have e6 : x 6 = undef := hx 6 (by decide) (by decide)
                have e7 : x 7 = undef := hx 7 (by decide) (by decide)
                have e8 : x 8 = undef := hx 8 (by decide) (by decide)
                have e9 : x 9 = undef := hx 9 (by decide) (by decide)
                have e10 : x 10 = undef := hx 10 (by decide) (by decide)
                have e11 : x 11 = undef := hx 11 (by decide) (by decide)
                have e12 : x 12 = undef := hx 12 (by decide) (by decide)
                have e13 : x 13 = .bool false := hx 13 (by decide) (by decide)
                have e14 : x 14 = .bool false := hx 14 (by decide) (by decide)
                simp only [e0, e1, e2, e3, e4, e5, e6, e7, e8, e9, e10, e11, e12, e13, e14]
                clear hx
                refine list_end ?_
                refine then_norm ?_
                refine wp_cond_false rfl ?_
                refine wp_skip ?_
                refine block_norm ?_
                refine then_norm ?_
                exact ⟨⟨⟨rfl, rfl, rfl, rfl, rfl, rfl, rfl, rfl, rfl, rfl, rfl, rfl, rfl, rfl, rfl, rfl, rfl, rfl, rfl, rfl, rfl, rfl, rfl, rfl, rfl, rfl, rfl, rfl, rfl, rfl, rfl, rfl, rfl, rfl, rfl, rfl, rfl, rfl, rfl, rfl, rfl, rfl, rfl, rfl, rfl, rfl, rfl, rfl, rfl, rfl, rfl, rfl, rfl, rfl, rfl, rfl, rfl, rfl, rfl, rfl, rfl, rfl, rfl, rfl, rfl, rfl, rfl, rfl, rfl, rfl, rfl, rfl, rfl, rfl, rfl, rfl, rfl, rfl, rfl, rfl, rfl, rfl, rfl, rfl, rfl, rfl, rfl, rfl, rfl, rfl, rfl, rfl, rfl, rfl⟩, rfl⟩, ⟨s, hsj14, hqj14, H⟩⟩
  · clear H
    intro f w hJ
    obtain ⟨sj14, hsj14, hqj14', H⟩ := hJ
    clear hqj14; have hqj14 := hqj14'; clear hqj14'
    have hqj14 := Option.some.inj hqj14
    subst hqj14
    (try dsimp only at hm)
    simp only [ovm, mixM]
    replace h_p1 := h_p1.mono hsj14
    replace hCe1 := hCe1.mono hsj14
    replace h2e1 := h2e1.mono hsj14
    have hS := hsj14
    obtain ⟨Rj18, hqj18, hm⟩ := lfe hm
    refine wp_joinF [none, none, none, none, none, none, none, none, none, none, none, none, none, none, none, none, none, none, none, none, none, none, none, none, none, none, none, none, none, none, none, none, none, none, none, none, none, none, none, none, none, none, none, none, none, none, none, none, none, none, none, none, none, none, none, none, none, none, none, none, none, none, none, none, none, none, none, none, none, none, none, none, none, none, none, none, none, none, none, none, none, none, none, none, none, none, none, none, some 88, some 89, some 90, some 91, some 92, some 93, some 94, some 95, some 96, some 97, some 98, some 99, some 100, some 101, some 102, some 103, some 104, some 105, some 106, some 107, some 108, some 109, some 110, some 111, some 112, none, none, none, none, none, none, none, none, none, none, none, none, none, none, none, none, none, none, none, none, none, none, none, none, none, none, none, none, none, none, none, none, none] rfl (fun f w => ∃ (zj18_p2 : Int → Option Int) (zj18_p3 : Int → Option Bool), (zj18_p2, zj18_p3) = Rj18 ∧ Holds E sj14 (pt b7 (.cells #[.int .i64 u1.kind, .int .i64 u1.proc, .slice A2e1 u1.ops.length c2e1] 73 (0, 0)) :: pt b_p0 (.cells #[.map (some r_p0_open_), .map (some r_p0_gone), .map (some r_p0_kinds)] 185 (0, 0)) :: mpF kcI vcI r_p0_open_ zj18_p2 :: mpF kcI vcB r_p0_gone zj18_p3 :: mpF kcS vcB r_p0_kinds a0.kinds :: L) w) ?_ ?_
    · skip
      refine wp_seq ?_
      refine wp_region_lit ?_
      apply seq_op (V := .pointer (some ⟨b7, 0, none⟩)) rfl
      · exact fun _ h => O_fld rfl Tryd.underlying73 rfl (Tryd.sizeOf3 _) rfl h
      (try simp only [PT])
      apply seq_op (V := .int .i64 u1.kind) rfl
      · exact fun _ h => L_1 0 _ _ rfl (Tryd.isAgg3 _) rfl H rfl rfl h
      (try simp only [PT])
      apply seq_op (V := .bool (u1.kind == 1)) rfl
      · exact fun _ h => O_bin rfl rfl rfl eqg_int r_eql h
      (try simp only [PT])
      refine list_end ?_
      refine then_norm ?_
      refine wp_cond_split rfl (fun hc => ?_) (fun hc => ?_)
      · have hc5 := hc
        clear hc
        replace hqj18 := ifT hc5 hqj18
        refine wp_draw_obO (k := 7) (sz := 146) (List.replicate 7 7) (fun _ => []) mixed (by simp) rfl (by kernel_rfl) (by kernel_rfl) (by kernel_rfl) H (by simp only [List.take_succ_cons, List.take_zero]; exact rfl) (by simp only [List.drop_succ_cons, List.drop_zero]; exact rfl)
          (fun y => by simp only [ov, Act.put, List.setIfInBounds_toArray, List.set_cons_succ, List.set_cons_zero, Nat.zero_add, Nat.reduceAdd]; exact rfl) ?_
        apply ObO.valw (V := .pointer (some ⟨b_p0, 0, none⟩))
        · intro x; rfl
        · intro s' w' y Φ R hs H hG hΦ; refine wantG rfl ?_; refine O_mv rfl rfl ?_; exact hΦ _ _ (Sub.refl _) H
        apply ObO.valw (V := .pointer (some ⟨b_p0, 0, none⟩))
        · intro x; rfl
        · intro s' w' y Φ R hs H hG hΦ; simp only [List.nil_append, List.cons_append] at hG; have e0 : y 0 = _ := dh_get hG 0 rfl (by kernel_rfl); simp only [e0]; refine wantG rfl ?_; refine O_nil rfl rfl ?_; exact hΦ _ _ (Sub.refl _) H
        apply ObO.valw (V := .pointer (some ⟨b_p0, 0, none⟩))
        · intro x; rfl
        · intro s' w' y Φ R hs H hG hΦ; simp only [List.nil_append, List.cons_append] at hG; have e1 : y 1 = _ := dh_get hG 1 rfl (by kernel_rfl); simp only [e1]; refine wantG rfl ?_; refine O_fld rfl Tryd.underlying185 rfl (Tryd.sizeOf34 _) rfl ?_; exact hΦ _ _ (Sub.refl _) H
        apply ObO.valw (V := .map (some r_p0_open_))
        · intro x; rfl
        · intro s' w' y Φ R hs H hG hΦ; simp only [List.nil_append, List.cons_append] at hG; have e2 : y 2 = _ := dh_get hG 2 rfl (by kernel_rfl); simp only [e2]; refine wantG rfl ?_; refine L_1 1 _ _ rfl (Tryd.isAgg34 _) rfl H rfl rfl ?_; exact hΦ _ _ (Sub.refl _) H
        apply ObO.valw (V := .pointer (some ⟨b7, 1, none⟩))
        · intro x; rfl
        · intro s' w' y Φ R hs H hG hΦ; refine wantG rfl ?_; refine O_fld rfl Tryd.underlying73 rfl (Tryd.sizeOf3 _) rfl ?_; exact hΦ _ _ (Sub.refl _) H
        apply ObO.valw (V := .int .i64 u1.proc)
        · intro x; rfl
        · intro s' w' y Φ R hs H hG hΦ; simp only [List.nil_append, List.cons_append] at hG; have e4 : y 4 = _ := dh_get hG 4 rfl (by kernel_rfl); simp only [e4]; refine wantG rfl ?_; refine L_1 0 _ _ rfl (Tryd.isAgg3 _) rfl H rfl rfl ?_; exact hΦ _ _ (Sub.refl _) H
        apply ObO.valw (V := .int .i64 a2)
        · intro x; rfl
        · intro s' w' y Φ R hs H hG hΦ; refine wantG rfl ?_; refine O_mv rfl rfl ?_; exact hΦ _ _ (Sub.refl _) H
        clear H
        intro s3 w3 yy hs3 H hG
        replace H := (show Holds _ _ ([] ++ _) _ from H); rw [List.nil_append] at H
        simp only [List.nil_append, List.cons_append] at hG
        have e0 : yy 0 = _ := gh_get hG 0 rfl
        have e1 : yy 1 = _ := gh_get hG 1 rfl
        have e2 : yy 2 = _ := gh_get hG 2 rfl
        have e3 : yy 3 = _ := gh_get hG 3 rfl
        have e4 : yy 4 = _ := gh_get hG 4 rfl
        have e5 : yy 5 = _ := gh_get hG 5 rfl
        have e6 : yy 6 = _ := gh_get hG 6 rfl
        simp only [e0, e1, e2, e3, e4, e5, e6]
        clear hG e0 e1 e2 e3 e4 e5 e6
        replace H := H.forget hs3; clear hs3
        refine OpG.list rfl ?_; refine F_put mk_I 2 34 _ _ _ rfl Tryd.underlying34 (k := u1.proc) (v := a2) h1e1 trivial rfl rfl rfl H rfl ?_; clear H; intro w1 H; simp only [List.set_cons_succ, List.set_cons_zero] at H
        (try simp only [PT])
        refine list_end ?_
        refine then_norm ?_
        exact ⟨⟨⟨rfl, rfl, rfl, rfl, rfl, rfl, rfl, rfl, rfl, rfl, rfl, rfl, rfl, rfl, rfl, rfl, rfl, rfl, rfl, rfl, rfl, rfl, rfl, rfl, rfl, rfl, rfl, rfl, rfl, rfl, rfl, rfl, rfl, rfl, rfl, rfl, rfl, rfl, rfl, rfl, rfl, rfl, rfl, rfl, rfl, rfl, rfl, rfl, rfl, rfl, rfl, rfl, rfl, rfl, rfl, rfl, rfl, rfl, rfl, rfl, rfl, rfl, rfl, rfl, rfl, rfl, rfl, rfl, rfl, rfl, rfl, rfl, rfl, rfl, rfl, rfl, rfl, rfl, rfl, rfl, rfl, rfl, rfl, rfl, rfl, rfl, rfl, rfl, rfl, rfl, rfl, rfl, rfl, rfl, rfl, rfl, rfl, rfl, rfl, rfl, rfl, rfl, rfl, rfl, rfl, rfl, rfl, rfl, rfl, rfl, rfl, rfl, rfl, rfl, rfl, rfl, rfl, rfl, rfl, rfl, rfl, rfl⟩, rfl⟩, ⟨(fset a0.open_ u1.proc a2), a0.gone, hqj18, H⟩⟩
      · have hc5 := hc
        clear hc
        replace hqj18 := ifF hc5 hqj18
        refine wp_seq ?_
        refine wp_draw_C (k := 7) (sz := 146) [6] [.pointer (some ⟨b_p0, 0, none⟩), .pointer (some ⟨b_p0, 0, none⟩), .pointer (some ⟨b_p0, 0, none⟩), .map (some r_p0_open_), .pointer (some ⟨b7, 1, none⟩), .int .i64 u1.proc, undef] [pt b7 (.cells #[.int .i64 u1.kind, .int .i64 u1.proc, .slice A2e1 u1.ops.length c2e1] 73 (0, 0)), pt b_p0 (.cells #[.map (some r_p0_open_), .map (some r_p0_gone), .map (some r_p0_kinds)] 185 (0, 0))] [fun w x => Holds E sj14 (pt b7 (.cells #[.int .i64 u1.kind, .int .i64 u1.proc, .slice A2e1 u1.ops.length c2e1] 73 (0, 0)) :: pt b_p0 (.cells #[.map (some r_p0_open_), .map (some r_p0_gone), .map (some r_p0_kinds)] 185 (0, 0)) :: mpF kcI vcI r_p0_open_ (fdel a0.open_ u1.proc) :: mpF kcI vcB r_p0_gone a0.gone :: mpF kcS vcB r_p0_kinds a0.kinds :: L) w] mixed (by simp) rfl (by kernel_rfl) (by kernel_rfl) (by kernel_rfl) (by simp) rfl H (by simp only [List.take_succ_cons, List.take_zero]; exact rfl) (by simp only [List.drop_succ_cons, List.drop_zero]; exact rfl)
          (fun x => by simp only [ov, Act.put, List.setIfInBounds_toArray, List.set_cons_succ, List.set_cons_zero, Nat.zero_add, Nat.reduceAdd]; exact rfl) ?_ ?_ ?_ ?_
        · refine ⟨?_, ?_, trivial⟩
          · intro w x hS; have H : Holds E sj14 (pt b7 (.cells #[.int .i64 u1.kind, .int .i64 u1.proc, .slice A2e1 u1.ops.length c2e1] 73 (0, 0)) :: pt b_p0 (.cells #[.map (some r_p0_open_), .map (some r_p0_gone), .map (some r_p0_kinds)] 185 (0, 0)) :: mpF kcI vcI r_p0_open_ a0.open_ :: mpF kcI vcB r_p0_gone a0.gone :: mpF kcS vcB r_p0_kinds a0.kinds :: L) w := hS; replace H := H.front 1 rfl; simp only [List.eraseIdx_cons_succ, List.eraseIdx_cons_zero] at H; replace H := H.front 1 rfl; simp only [List.eraseIdx_cons_succ, List.eraseIdx_cons_zero] at H; exact ⟨_, _, Sub.refl _, H⟩
          · intro w x hS; have H : Holds _ _ _ _ := hS; replace H := H.front 1 rfl; simp only [List.eraseIdx_cons_succ, List.eraseIdx_cons_zero] at H; replace H := H.front 1 rfl; simp only [List.eraseIdx_cons_succ, List.eraseIdx_cons_zero] at H; exact ⟨_, _, Sub.refl _, H⟩
        · refine ⟨?_, ?_, ?_, ?_, ?_, ?_, ?_, trivial⟩
          · refine .inr ?_; intro s' R w' x Φ hs H hx hΦ; refine wantG rfl ?_; refine O_mv rfl rfl ?_; exact hΦ
          · refine .inr ?_; intro s' R w' x Φ hs H hx hΦ; have e0 : x 0 = .pointer (some ⟨b_p0, 0, none⟩) := hx 0 (by decide) (by decide); simp only [e0]; refine wantG rfl ?_; refine O_nil rfl rfl ?_; exact hΦ
          · refine .inr ?_; intro s' R w' x Φ hs H hx hΦ; have e1 : x 1 = .pointer (some ⟨b_p0, 0, none⟩) := hx 1 (by decide) (by decide); simp only [e1]; refine wantG rfl ?_; refine O_fld rfl Tryd.underlying185 rfl (Tryd.sizeOf34 _) rfl ?_; exact hΦ
          · refine .inr ?_; intro s' R w' x Φ hs H hx hΦ; have e2 : x 2 = .pointer (some ⟨b_p0, 0, none⟩) := hx 2 (by decide) (by decide); simp only [e2]; refine wantG rfl ?_; refine L_1 1 _ _ rfl (Tryd.isAgg34 _) rfl H rfl rfl ?_; exact hΦ
          · refine .inr ?_; intro s' R w' x Φ hs H hx hΦ; refine wantG rfl ?_; refine O_fld rfl Tryd.underlying73 rfl (Tryd.sizeOf3 _) rfl ?_; exact hΦ
          · refine .inr ?_; intro s' R w' x Φ hs H hx hΦ; have e4 : x 4 = .pointer (some ⟨b7, 1, none⟩) := hx 4 (by decide) (by decide); simp only [e4]; refine wantG rfl ?_; refine L_1 0 _ _ rfl (Tryd.isAgg3 _) rfl H rfl rfl ?_; exact hΦ
          · exact .inl (by decide)
        · refine ⟨?_, trivial⟩
          · intro o ho; obtain rfl := Option.some.inj ho; intro w' x Φ hS hx hΦ
            have H : Holds E sj14 (pt b7 (.cells #[.int .i64 u1.kind, .int .i64 u1.proc, .slice A2e1 u1.ops.length c2e1] 73 (0, 0)) :: pt b_p0 (.cells #[.map (some r_p0_open_), .map (some r_p0_gone), .map (some r_p0_kinds)] 185 (0, 0)) :: mpF kcI vcI r_p0_open_ a0.open_ :: mpF kcI vcB r_p0_gone a0.gone :: mpF kcS vcB r_p0_kinds a0.kinds :: L) w' := hS; clear hS
            have e3 : x 3 = .map (some r_p0_open_) := hx 3 (by decide) (by decide)
            have e5 : x 5 = .int .i64 u1.proc := hx 5 (by decide) (by decide)
            simp only [e3, e5]
            refine wantG rfl ?_
            refine F_del mk_I 2 34 _ _ rfl Tryd.underlying34 (k := u1.proc) h1e1 rfl rfl H rfl ?_; clear H; intro w1 H; simp only [List.set_cons_succ, List.set_cons_zero] at H
            exact hΦ _ _ H
        · clear H
          intro w' x hS hx
          have H : Holds _ _ _ _ := hS
          have e0 : x 0 = .pointer (some ⟨b_p0, 0, none⟩) := hx 0 (by decide) (by decide)
          have e1 : x 1 = .pointer (some ⟨b_p0, 0, none⟩) := hx 1 (by decide) (by decide)
          have e2 : x 2 = .pointer (some ⟨b_p0, 0, none⟩) := hx 2 (by decide) (by decide)
          have e3 : x 3 = .map (some r_p0_open_) := hx 3 (by decide) (by decide)
          have e4 : x 4 = .pointer (some ⟨b7, 1, none⟩) := hx 4 (by decide) (by decide)
          have e5 : x 5 = .int .i64 u1.proc := hx 5 (by decide) (by decide)
          simp only [e0, e1, e2, e3, e4, e5]
          clear hx
          refine list_end ?_
          refine then_norm ?_
          refine wp_draw_obO (k := 9) (sz := 146) (List.replicate 9 9) (fun _ => []) mixed (by simp) rfl (by kernel_rfl) (by kernel_rfl) (by kernel_rfl) H (by simp only [List.take_succ_cons, List.take_zero]; exact rfl) (by simp only [List.drop_succ_cons, List.drop_zero]; exact rfl)
            (fun y => by simp only [ov, Act.put, List.setIfInBounds_toArray, List.set_cons_succ, List.set_cons_zero, Nat.zero_add, Nat.reduceAdd]; exact rfl) ?_
          apply ObO.valw (V := .pointer (some ⟨b_p0, 0, none⟩))
          · intro x; rfl
          · intro s' w' y Φ R hs H hG hΦ; refine wantG rfl ?_; refine O_mv rfl rfl ?_; exact hΦ _ _ (Sub.refl _) H
          apply ObO.valw (V := .pointer (some ⟨b_p0, 0, none⟩))
          · intro x; rfl
          · intro s' w' y Φ R hs H hG hΦ; simp only [List.nil_append, List.cons_append] at hG; have e0 : y 0 = _ := dh_get hG 0 rfl (by kernel_rfl); simp only [e0]; refine wantG rfl ?_; refine O_nil rfl rfl ?_; exact hΦ _ _ (Sub.refl _) H
          apply ObO.valw (V := .pointer (some ⟨b_p0, 1, none⟩))
          · intro x; rfl
          · intro s' w' y Φ R hs H hG hΦ; simp only [List.nil_append, List.cons_append] at hG; have e1 : y 1 = _ := dh_get hG 1 rfl (by kernel_rfl); simp only [e1]; refine wantG rfl ?_; refine O_fld rfl Tryd.underlying185 rfl (Tryd.sizeOf183 _) rfl ?_; exact hΦ _ _ (Sub.refl _) H
          apply ObO.valw (V := .map (some r_p0_gone))
          · intro x; rfl
          · intro s' w' y Φ R hs H hG hΦ; simp only [List.nil_append, List.cons_append] at hG; have e2 : y 2 = _ := dh_get hG 2 rfl (by kernel_rfl); simp only [e2]; refine wantG rfl ?_; refine L_1 1 _ _ rfl (Tryd.isAgg183 _) rfl H rfl rfl ?_; exact hΦ _ _ (Sub.refl _) H
          apply ObO.valw (V := .pointer (some ⟨b7, 1, none⟩))
          · intro x; rfl
          · intro s' w' y Φ R hs H hG hΦ; refine wantG rfl ?_; refine O_fld rfl Tryd.underlying73 rfl (Tryd.sizeOf3 _) rfl ?_; exact hΦ _ _ (Sub.refl _) H
          apply ObO.valw (V := .int .i64 u1.proc)
          · intro x; rfl
          · intro s' w' y Φ R hs H hG hΦ; simp only [List.nil_append, List.cons_append] at hG; have e4 : y 4 = _ := dh_get hG 4 rfl (by kernel_rfl); simp only [e4]; refine wantG rfl ?_; refine L_1 0 _ _ rfl (Tryd.isAgg3 _) rfl H rfl rfl ?_; exact hΦ _ _ (Sub.refl _) H
          apply ObO.valw (V := .pointer (some ⟨b7, 0, none⟩))
          · intro x; rfl
          · intro s' w' y Φ R hs H hG hΦ; refine wantG rfl ?_; refine O_fld rfl Tryd.underlying73 rfl (Tryd.sizeOf3 _) rfl ?_; exact hΦ _ _ (Sub.refl _) H
          apply ObO.valw (V := .int .i64 u1.kind)
          · intro x; rfl
          · intro s' w' y Φ R hs H hG hΦ; simp only [List.nil_append, List.cons_append] at hG; have e6 : y 6 = _ := dh_get hG 6 rfl (by kernel_rfl); simp only [e6]; refine wantG rfl ?_; refine L_1 0 _ _ rfl (Tryd.isAgg3 _) rfl H rfl rfl ?_; exact hΦ _ _ (Sub.refl _) H
          apply ObO.valw (V := .bool (u1.kind == 4))
          · intro x; rfl
          · intro s' w' y Φ R hs H hG hΦ; simp only [List.nil_append, List.cons_append] at hG; have e7 : y 7 = _ := dh_get hG 7 rfl (by kernel_rfl); simp only [e7]; refine wantG rfl ?_; refine O_bin rfl rfl rfl eqg_int r_eql ?_; exact hΦ _ _ (Sub.refl _) H
          clear H
          intro s3 w3 yy hs3 H hG
          replace H := (show Holds _ _ ([] ++ _) _ from H); rw [List.nil_append] at H
          simp only [List.nil_append, List.cons_append] at hG
          have e0 : yy 0 = _ := gh_get hG 0 rfl
          have e1 : yy 1 = _ := gh_get hG 1 rfl
          have e2 : yy 2 = _ := gh_get hG 2 rfl
          have e3 : yy 3 = _ := gh_get hG 3 rfl
          have e4 : yy 4 = _ := gh_get hG 4 rfl
          have e5 : yy 5 = _ := gh_get hG 5 rfl
          have e6 : yy 6 = _ := gh_get hG 6 rfl
          have e7 : yy 7 = _ := gh_get hG 7 rfl
          have e8 : yy 8 = _ := gh_get hG 8 rfl
          simp only [e0, e1, e2, e3, e4, e5, e6, e7, e8]
          clear hG e0 e1 e2 e3 e4 e5 e6 e7 e8
          replace H := H.forget hs3; clear hs3
          refine OpG.list rfl ?_; refine F_put mk_I 3 183 _ _ _ rfl Tryd.underlying183 (k := u1.proc) (v := u1.kind == 4) h1e1 trivial rfl rfl rfl H rfl ?_; clear H; intro w1 H; simp only [List.set_cons_succ, List.set_cons_zero] at H
          (try simp only [PT])
          refine list_end ?_
          refine then_norm ?_
          exact ⟨⟨⟨rfl, rfl, rfl, rfl, rfl, rfl, rfl, rfl, rfl, rfl, rfl, rfl, rfl, rfl, rfl, rfl, rfl, rfl, rfl, rfl, rfl, rfl, rfl, rfl, rfl, rfl, rfl, rfl, rfl, rfl, rfl, rfl, rfl, rfl, rfl, rfl, rfl, rfl, rfl, rfl, rfl, rfl, rfl, rfl, rfl, rfl, rfl, rfl, rfl, rfl, rfl, rfl, rfl, rfl, rfl, rfl, rfl, rfl, rfl, rfl, rfl, rfl, rfl, rfl, rfl, rfl, rfl, rfl, rfl, rfl, rfl, rfl, rfl, rfl, rfl, rfl, rfl, rfl, rfl, rfl, rfl, rfl, rfl, rfl, rfl, rfl, rfl, rfl, rfl, rfl, rfl, rfl, rfl, rfl, rfl, rfl, rfl, rfl, rfl, rfl, rfl, rfl, rfl, rfl, rfl, rfl, rfl, rfl, rfl, rfl, rfl, rfl, rfl, rfl, rfl, rfl, rfl, rfl, rfl, rfl, rfl, rfl⟩, rfl⟩, ⟨(fdel a0.open_ u1.proc), (fset a0.gone u1.proc (u1.kind == 4)), hqj18, H⟩⟩
    · clear H
      intro f w hJ
      obtain ⟨zj18_p2, zj18_p3, hqj18', H⟩ := hJ
      clear hqj18; have hqj18 := hqj18'; clear hqj18'
      subst hqj18
      (try dsimp only at hm)
      simp only [ovm, mixM]
      refine wp_seq ?_
      refine wp_seq ?_
      refine wp_region_lit ?_
      apply seq_op (V := .pointer (some ⟨b7, 2, none⟩)) rfl
      · exact fun _ h => O_fld rfl Tryd.underlying73 rfl (Tryd.sizeOf71 _) rfl h
      (try simp only [PT])
      apply seq_op (V := .slice A2e1 u1.ops.length c2e1) rfl
      · exact fun _ h => L_1 0 _ _ rfl (Tryd.isAgg71 _) rfl H rfl rfl h
      (try simp only [PT])
      apply seq_op (V := .int .i64 (u1.ops.length : Int)) rfl
      · exact fun _ h => O_len rfl Tryd.underlying71 rfl h
      (try simp only [PT])
      apply seq_op (V := .int .i64 0) rfl
      · exact fun _ h => O_mv rfl rfl h
      (try simp only [PT])
      refine list_end ?_
      refine then_norm ?_
      refine wp_block ?_
      obtain ⟨R19, hq19, hm⟩ := lfe hm
      have hn19 := Nat.le_trans (len_le (d := kOp) h2e1 (by decide)) (by decide : (140737488355328 : Nat) ≤ 9223372036854775807)
      refine wp_loopF [none, none, none, none, none, none, some 6, none, none, none, none, none, none, some 13, some 14, some 15, none, none, none, none, none, none, none, none, none, none, none, none, none, none, none, none, none, none, none, none, none, none, none, none, none, none, none, none, none, none, none, none, none, none, none, none, none, none, none, none, none, none, none, none, none, none, none, none, none, none, none, none, none, none, none, none, none, none, none, none, none, none, none, none, none, none, none, none, none, none, none, none, none, none, none, none, none, none, none, none, none, none, none, none, none, none, none, none, none, none, none, none, none, none, none, none, none, none, none, none, some 116, some 117, some 118, some 119, some 120, some 121, some 122, some 123, some 124, some 125, some 126, some 127, some 128, some 129, some 130, some 131, some 132, some 133, some 134, some 135, some 136, some 137, some 138, some 139, some 140, some 141, some 142, some 143, some 144, some 145] rfl (by simp) (fun f w => ∃ (k19 : Nat) (r19 : List Op') (y19_p4 : ByteArray → Option Bool), u1.ops.drop k19 = r19 ∧ f 116 = .int .i64 (k19 : Int) ∧ pair_table_event_l19 zj18_p2 zj18_p3 k19 r19 y19_p4 = R19 ∧ Holds E sj14 (pt b7 (.cells #[.int .i64 u1.kind, .int .i64 u1.proc, .slice A2e1 u1.ops.length c2e1] 73 (0, 0)) :: pt b_p0 (.cells #[.map (some r_p0_open_), .map (some r_p0_gone), .map (some r_p0_kinds)] 185 (0, 0)) :: mpF kcI vcI r_p0_open_ zj18_p2 :: mpF kcI vcB r_p0_gone zj18_p3 :: mpF kcS vcB r_p0_kinds y19_p4 :: L) w) (fun f w => u1.ops.length - (intOf (f 116)).toNat) ?_ ?_
      · exact ⟨0, u1.ops, a0.kinds, rfl, rfl, hq19, H⟩
      · clear H
        intro f w hI
        obtain ⟨k19, r19, y19_p4, hd19, hf116, hq19', H⟩ := hI
        clear hq19; have hq19 := hq19'; clear hq19'
        simp only [ovm, mixM]
        simp only [hf116]; clear hf116
        refine wp_seq ?_
        refine wp_region_lit ?_
        apply seq_op (V := .bool (decide ((k19 : Int) < (u1.ops.length : Int)))) rfl
        · exact fun _ h => O_bin rfl rfl rfl eqg_int r_lss h
        (try simp only [PT])
        refine list_end ?_
        refine then_norm ?_
        refine wp_seq ?_
        refine wp_cond_split rfl (fun hc => ?_) (fun hc => ?_)
        · have hc6 := hc
          clear hc
          obtain ⟨x19, r19', rfl, hd19', hd19'', hl19⟩ := rng_t hd19 hc6
          rw [pair_table_event_l19] at hq19
          refine wp_skip ?_
          refine then_norm ?_
          refine wp_seq ?_
          refine wp_block ?_
          refine wp_seq ?_
          obtain ⟨be2, oe2, A3e2, c3e2, rfl, hCe2, h0e2, h1e2, h2e2, h3e2⟩ := kOp_el h2e1 hd19'
          refine wp_region_lit ?_
          apply seq_op (V := .pointer (some ⟨be2, oe2 + k19 * 6, none⟩)) rfl
          · exact fun _ h => O_ix rfl Tryd.underlying71 (Tryd.sizeOf108 _) rfl rfl rfl hl19 h
          (try simp only [PT])
          apply seq_op (V := .agg #[.int .i64 x19.kind, .string x19.key, .int .i64 x19.value, .slice A3e2 x19.list.length c3e2, .bool x19.has, .bool x19.isNil]) rfl
          · exact fun _ h => G_sN _ _ rfl (Tryd.isAgg108 _) rfl H hCe2 (Tryd.sizeOf108 _) h
          (try simp only [PT])
          refine OpG.list rfl ?_; refine G_alloc 108 rfl (Tryd.zeroValue108 _) H ?_; clear H; intro b13 w1 H; (try simp only [Value.cells] at H)
          (try simp only [PT])
          refine OpG.list rfl ?_; refine G_setNi 0 (c := [.int .i64 x19.kind, .string x19.key, .int .i64 x19.value, .slice A3e2 x19.list.length c3e2, .bool x19.has, .bool x19.isNil]) _ _ _ rfl (Tryd.sizeOf108 _) rfl rfl (by simp [Value.oneCell']) H rfl rfl ?_; clear H; intro w1 H; simp only [List.set_cons_succ, List.set_cons_zero] at H
          (try simp only [PT])
          refine list_end ?_
          refine then_norm ?_
          refine wp_seq ?_
          refine wp_seq ?_
          refine wp_draw_obO (k := 11) (sz := 146) (List.replicate 11 11) (fun _ => []) mixed (by simp) rfl (by kernel_rfl) (by kernel_rfl) (by kernel_rfl) H (by simp only [List.take_succ_cons, List.take_zero]; exact rfl) (by simp only [List.drop_succ_cons, List.drop_zero]; exact rfl)
            (fun y => by simp only [ov, Act.put, List.setIfInBounds_toArray, List.set_cons_succ, List.set_cons_zero, Nat.zero_add, Nat.reduceAdd]; exact rfl) ?_
          apply ObO.valw (V := .pointer (some ⟨b_p0, 0, none⟩))
          · intro x; rfl
          · intro s' w' y Φ R hs H hG hΦ; refine wantG rfl ?_; refine O_mv rfl rfl ?_; exact hΦ _ _ (Sub.refl _) H
          apply ObO.valw (V := .pointer (some ⟨b_p0, 0, none⟩))
          · intro x; rfl
          · intro s' w' y Φ R hs H hG hΦ; simp only [List.nil_append, List.cons_append] at hG; have e0 : y 0 = _ := dh_get hG 0 rfl (by kernel_rfl); simp only [e0]; refine wantG rfl ?_; refine O_nil rfl rfl ?_; exact hΦ _ _ (Sub.refl _) H
          apply ObO.valw (V := .pointer (some ⟨b_p0, 2, none⟩))
          · intro x; rfl
          · intro s' w' y Φ R hs H hG hΦ; simp only [List.nil_append, List.cons_append] at hG; have e1 : y 1 = _ := dh_get hG 1 rfl (by kernel_rfl); simp only [e1]; refine wantG rfl ?_; refine O_fld rfl Tryd.underlying185 rfl (Tryd.sizeOf169 _) rfl ?_; exact hΦ _ _ (Sub.refl _) H
          apply ObO.valw (V := .map (some r_p0_kinds))
          · intro x; rfl
          · intro s' w' y Φ R hs H hG hΦ; simp only [List.nil_append, List.cons_append] at hG; have e2 : y 2 = _ := dh_get hG 2 rfl (by kernel_rfl); simp only [e2]; refine wantG rfl ?_; refine L_1 2 _ _ rfl (Tryd.isAgg169 _) rfl H rfl rfl ?_; exact hΦ _ _ (Sub.refl _) H
          apply ObO.valw (V := .pointer (some ⟨b13, 1, none⟩))
          · intro x; rfl
          · intro s' w' y Φ R hs H hG hΦ; refine wantG rfl ?_; refine O_fld rfl Tryd.underlying108 rfl (Tryd.sizeOf9 _) rfl ?_; exact hΦ _ _ (Sub.refl _) H
          apply ObO.valw (V := .string x19.key)
          · intro x; rfl
          · intro s' w' y Φ R hs H hG hΦ; simp only [List.nil_append, List.cons_append] at hG; have e4 : y 4 = _ := dh_get hG 4 rfl (by kernel_rfl); simp only [e4]; refine wantG rfl ?_; refine L_1 0 _ _ rfl (Tryd.isAgg9 _) rfl H rfl rfl ?_; exact hΦ _ _ (Sub.refl _) H
          apply ObO.valw (V := .tuple #[.bool ((y19_p4 x19.key).getD false), .bool ((y19_p4 x19.key).isSome)])
          · intro x; rfl
          · intro s' w' y Φ R hs H hG hΦ; simp only [List.nil_append, List.cons_append] at hG; have e3 : y 3 = _ := dh_get hG 3 rfl (by kernel_rfl); have e5 : y 5 = _ := dh_get hG 5 rfl (by kernel_rfl); simp only [e3, e5]; refine wantG rfl ?_; refine F_get2 mk_S 5 169 _ _ rfl Tryd.underlying169 (k := x19.key) (Nat.le_trans h1e2 (by decide)) rfl rfl H rfl (Tryd.zeroValue4 _) ?_; exact hΦ _ _ (Sub.refl _) H
          apply ObO.valw (V := .tuple #[.bool ((y19_p4 x19.key).getD false), .bool ((y19_p4 x19.key).isSome)])
          · intro x; rfl
          · intro s' w' y Φ R hs H hG hΦ; simp only [List.nil_append, List.cons_append] at hG; have e6 : y 6 = _ := dh_get hG 6 rfl (by kernel_rfl); simp only [e6]; refine wantG rfl ?_; refine O_mv rfl rfl ?_; exact hΦ _ _ (Sub.refl _) H
          apply ObO.valw (V := .bool ((y19_p4 x19.key).getD false))
          · intro x; rfl
          · intro s' w' y Φ R hs H hG hΦ; simp only [List.nil_append, List.cons_append] at hG; have e7 : y 7 = _ := dh_get hG 7 rfl (by kernel_rfl); simp only [e7]; refine wantG rfl ?_; refine O_ext rfl rfl rfl ?_; exact hΦ _ _ (Sub.refl _) H
          apply ObO.valw (V := .bool ((y19_p4 x19.key).isSome))
          · intro x; rfl
          · intro s' w' y Φ R hs H hG hΦ; simp only [List.nil_append, List.cons_append] at hG; have e7 : y 7 = _ := dh_get hG 7 rfl (by kernel_rfl); simp only [e7]; refine wantG rfl ?_; refine O_ext rfl rfl rfl ?_; exact hΦ _ _ (Sub.refl _) H
          apply ObO.valw (V := .bool ((y19_p4 x19.key).getD false))
          · intro x; rfl
          · intro s' w' y Φ R hs H hG hΦ; simp only [List.nil_append, List.cons_append] at hG; have e8 : y 8 = _ := dh_get hG 8 rfl (by kernel_rfl); simp only [e8]; refine wantG rfl ?_; refine O_as rfl rfl ?_; exact hΦ _ _ (Sub.refl _) H
          clear H
          intro s3 w3 yy hs3 H hG
          replace H := (show Holds _ _ ([] ++ _) _ from H); rw [List.nil_append] at H
          simp only [List.nil_append, List.cons_append] at hG
          have e0 : yy 0 = _ := gh_get hG 0 rfl
          have e1 : yy 1 = _ := gh_get hG 1 rfl
          have e2 : yy 2 = _ := gh_get hG 2 rfl
          have e3 : yy 3 = _ := gh_get hG 3 rfl
          have e4 : yy 4 = _ := gh_get hG 4 rfl
          have e5 : yy 5 = _ := gh_get hG 5 rfl
          have e6 : yy 6 = _ := gh_get hG 6 rfl
          have e7 : yy 7 = _ := gh_get hG 7 rfl
          have e8 : yy 8 = _ := gh_get hG 8 rfl
          have e9 : yy 9 = _ := gh_get hG 9 rfl
          have e10 : yy 10 = _ := gh_get hG 10 rfl
          simp only [e0, e1, e2, e3, e4, e5, e6, e7, e8, e9, e10]
          clear hG e0 e1 e2 e3 e4 e5 e6 e7 e8 e9 e10
          replace H := H.forget hs3; clear hs3
          apply seq_op (V := .bool ((y19_p4 x19.key).isSome)) rfl
          · exact fun _ h => O_as rfl rfl h
          (try simp only [PT])
          refine list_end ?_
          refine then_norm ?_
          refine wp_seq ?_
          refine wp_region_lit ?_
          apply seq_op (V := .bool ((y19_p4 x19.key).isSome)) rfl
          · exact fun _ h => O_mv rfl rfl h
          (try simp only [PT])
          apply seq_op (V := .bool ((y19_p4 x19.key).isSome)) rfl
          · exact fun _ h => O_mv rfl rfl h
          (try simp only [PT])
          refine seq_opg (c := ((y19_p4 x19.key).isSome)) (V := .bool ((y19_p4 x19.key).getD false)) (by first | exact wanted_t rfl rfl rfl | exact wanted_vt rfl rfl rfl) ?_ ?_
          · intro hc Φ hΦ; refine O_mv rfl rfl ?_; exact hΦ
          (try simp only [PT])
          refine seq_opg (c := ((y19_p4 x19.key).isSome)) (V := .agg #[.int .i64 x19.kind, .string x19.key, .int .i64 x19.value, .slice A3e2 x19.list.length c3e2, .bool x19.has, .bool x19.isNil]) (by first | exact wanted_t rfl rfl rfl | exact wanted_vt rfl rfl rfl) ?_ ?_
          · intro hc Φ hΦ; refine G_pNi 0 _ _ rfl (Tryd.isAgg108 _) rfl H rfl (Tryd.sizeOf108 _) ?_; exact hΦ
          (try simp only [PT])
          refine seq_opgH (c := ((y19_p4 x19.key).isSome)) (V := .bool (pair_listed_f x19)) H (by first | exact wanted_t rfl rfl rfl | exact wanted_vt rfl rfl rfl) ?_ ?_
          · intro hc Φ hΦ; (repeat (first | rw [vg_of hc] | rw [vg_of (and_l hc)] | rw [vg_of (and_l (and_l hc))] | rw [vg_of (and_l (and_l (and_l hc)))] | rw [vg_and hc])); refine O_call1 rfl Tryd.func159 rfl rfl rfl ?_; refine (pair_listed_w (a0 := x19) (h_p0_list := h3e2) (H := H)).mono ?_; rintro e w2 ⟨rfl, H⟩; exact ⟨_, rfl, hΦ _ H⟩
          clear H; intro w1 H
          (try simp only [PT])
          refine seq_opg (c := ((y19_p4 x19.key).isSome)) (V := .bool (!(((y19_p4 x19.key).getD false) == (pair_listed_f x19)))) (by first | exact wanted_t rfl rfl rfl | exact wanted_vt rfl rfl rfl) ?_ ?_
          · intro hc Φ hΦ; (repeat (first | rw [vg_of hc] | rw [vg_of (and_l hc)] | rw [vg_of (and_l (and_l hc))] | rw [vg_of (and_l (and_l (and_l hc)))] | rw [vg_and hc])); refine O_bin rfl rfl rfl eqg_bool (r_bne Tryd.underlying4) ?_; exact hΦ
          (try simp only [PT])
          apply seq_op (V := .bool (((y19_p4 x19.key).isSome) && (!(((y19_p4 x19.key).getD false) == (pair_listed_f x19))))) rfl
          · exact fun _ h => G_and _ _ _ rfl rfl rfl rfl h
          (try simp only [PT])
          refine list_end ?_
          refine then_norm ?_
          refine wp_cond_split rfl (fun hc => ?_) (fun hc => ?_)
          · have hc7 := hc
            clear hc
            replace hq19 := ifT hc7 hq19
            refine wp_seq ?_
            refine wp_region_lit ?_
            apply seq_op (V := .int .i64 33) rfl
            · exact fun _ h => O_as rfl rfl h
            (try simp only [PT])
            refine list_end ?_
            refine then_norm ?_
            refine wp_ret ?_
            refine then_ret ?_
            refine block_ret ?_
            refine then_ret ?_
            refine then_ret ?_
            refine block_ret ?_
            refine then_ret ?_
            subst hq19
            (try dsimp only at hm)
            have hm := Option.some.inj hm
            subst hm
            replace H := H.front 5 rfl; simp only [List.eraseIdx_cons_succ, List.eraseIdx_cons_zero] at H
            replace H := H.front 5 rfl; simp only [List.eraseIdx_cons_succ, List.eraseIdx_cons_zero] at H
            replace H := H.front 5 rfl; simp only [List.eraseIdx_cons_succ, List.eraseIdx_cons_zero] at H
            replace H := H.front 5 rfl; simp only [List.eraseIdx_cons_succ, List.eraseIdx_cons_zero] at H
            replace H := H.dropAt 5 rfl; simp only [List.eraseIdx_cons_succ, List.eraseIdx_cons_zero] at H
            replace H := H.dropAt 4 rfl; simp only [List.eraseIdx_cons_succ, List.eraseIdx_cons_zero] at H
            replace H := H.forget hS
            exact ret1 rfl (rv_tmp rfl) rfl ⟨r_p0_open_, r_p0_gone, r_p0_kinds, rfl, H⟩
          · have hc7 := hc
            clear hc
            replace hq19 := ifF hc7 hq19
            refine wp_skip ?_
            refine then_norm ?_
            refine wp_draw_obO (k := 8) (sz := 146) (List.replicate 8 8) (fun _ => []) mixed (by simp) rfl (by kernel_rfl) (by kernel_rfl) (by kernel_rfl) H (by simp only [List.take_succ_cons, List.take_zero]; exact rfl) (by simp only [List.drop_succ_cons, List.drop_zero]; exact rfl)
              (fun y => by simp only [ov, Act.put, List.setIfInBounds_toArray, List.set_cons_succ, List.set_cons_zero, Nat.zero_add, Nat.reduceAdd]; exact rfl) ?_
            apply ObO.valw (V := .pointer (some ⟨b_p0, 0, none⟩))
            · intro x; rfl
            · intro s' w' y Φ R hs H hG hΦ; refine wantG rfl ?_; refine O_mv rfl rfl ?_; exact hΦ _ _ (Sub.refl _) H
            apply ObO.valw (V := .pointer (some ⟨b_p0, 0, none⟩))
            · intro x; rfl
            · intro s' w' y Φ R hs H hG hΦ; simp only [List.nil_append, List.cons_append] at hG; have e0 : y 0 = _ := dh_get hG 0 rfl (by kernel_rfl); simp only [e0]; refine wantG rfl ?_; refine O_nil rfl rfl ?_; exact hΦ _ _ (Sub.refl _) H
            apply ObO.valw (V := .pointer (some ⟨b_p0, 2, none⟩))
            · intro x; rfl
            · intro s' w' y Φ R hs H hG hΦ; simp only [List.nil_append, List.cons_append] at hG; have e1 : y 1 = _ := dh_get hG 1 rfl (by kernel_rfl); simp only [e1]; refine wantG rfl ?_; refine O_fld rfl Tryd.underlying185 rfl (Tryd.sizeOf169 _) rfl ?_; exact hΦ _ _ (Sub.refl _) H
            apply ObO.valw (V := .map (some r_p0_kinds))
            · intro x; rfl
            · intro s' w' y Φ R hs H hG hΦ; simp only [List.nil_append, List.cons_append] at hG; have e2 : y 2 = _ := dh_get hG 2 rfl (by kernel_rfl); simp only [e2]; refine wantG rfl ?_; refine L_1 2 _ _ rfl (Tryd.isAgg169 _) rfl H rfl rfl ?_; exact hΦ _ _ (Sub.refl _) H
            apply ObO.valw (V := .pointer (some ⟨b13, 1, none⟩))
            · intro x; rfl
            · intro s' w' y Φ R hs H hG hΦ; refine wantG rfl ?_; refine O_fld rfl Tryd.underlying108 rfl (Tryd.sizeOf9 _) rfl ?_; exact hΦ _ _ (Sub.refl _) H
            apply ObO.valw (V := .string x19.key)
            · intro x; rfl
            · intro s' w' y Φ R hs H hG hΦ; simp only [List.nil_append, List.cons_append] at hG; have e4 : y 4 = _ := dh_get hG 4 rfl (by kernel_rfl); simp only [e4]; refine wantG rfl ?_; refine L_1 0 _ _ rfl (Tryd.isAgg9 _) rfl H rfl rfl ?_; exact hΦ _ _ (Sub.refl _) H
            apply ObO.valw (V := .agg #[.int .i64 x19.kind, .string x19.key, .int .i64 x19.value, .slice A3e2 x19.list.length c3e2, .bool x19.has, .bool x19.isNil])
            · intro x; rfl
            · intro s' w' y Φ R hs H hG hΦ; refine wantG rfl ?_; refine G_pNi 0 _ _ rfl (Tryd.isAgg108 _) rfl H rfl (Tryd.sizeOf108 _) ?_; exact hΦ _ _ (Sub.refl _) H
            apply ObO.valw (V := .bool (pair_listed_f x19))
            · intro x; rfl
            · intro s' w' y Φ R hs H hG hΦ; simp only [List.nil_append, List.cons_append] at hG; have e6 : y 6 = _ := dh_get hG 6 rfl (by kernel_rfl); simp only [e6]; refine wantG rfl ?_; refine O_call1 rfl Tryd.func159 rfl rfl rfl ?_; refine (pair_listed_w (a0 := x19) (h_p0_list := (h3e2.mono hs)) (H := H)).mono ?_; rintro e w2 ⟨rfl, H⟩; exact ⟨_, rfl, hΦ _ _ (Sub.refl _) H⟩
            clear H
            intro s3 w3 yy hs3 H hG
            replace H := (show Holds _ _ ([] ++ _) _ from H); rw [List.nil_append] at H
            simp only [List.nil_append, List.cons_append] at hG
            have e0 : yy 0 = _ := gh_get hG 0 rfl
            have e1 : yy 1 = _ := gh_get hG 1 rfl
            have e2 : yy 2 = _ := gh_get hG 2 rfl
            have e3 : yy 3 = _ := gh_get hG 3 rfl
            have e4 : yy 4 = _ := gh_get hG 4 rfl
            have e5 : yy 5 = _ := gh_get hG 5 rfl
            have e6 : yy 6 = _ := gh_get hG 6 rfl
            have e7 : yy 7 = _ := gh_get hG 7 rfl
            simp only [e0, e1, e2, e3, e4, e5, e6, e7]
            clear hG e0 e1 e2 e3 e4 e5 e6 e7
            replace H := H.forget hs3; clear hs3
            refine OpG.list rfl ?_; refine F_put mk_S 5 169 _ _ _ rfl Tryd.underlying169 (k := x19.key) (v := pair_listed_f x19) (Nat.le_trans h1e2 (by decide)) trivial rfl rfl rfl H rfl ?_; clear H; intro w1 H; simp only [List.set_cons_succ, List.set_cons_zero] at H
            (try simp only [PT])
            refine list_end ?_
            refine block_norm ?_
            refine then_norm ?_
            refine wp_region_lit ?_
            apply seq_op (V := .int .i64 (IntKind.i64.wrap ((k19 : Int) + 1))) rfl
            · exact fun _ h => O_bin rfl rfl rfl eqg_int r_add h
            (try simp only [PT])
            apply seq_op (V := .int .i64 (IntKind.i64.wrap ((k19 : Int) + 1))) rfl
            · exact fun _ h => O_mv rfl rfl h
            (try simp only [PT])
            refine list_end ?_
            refine then_norm ?_
            replace H := H.drop
            refine ⟨⟨⟨rfl, rfl, rfl, rfl, rfl, rfl, rfl, rfl, rfl, rfl, rfl, rfl, rfl, rfl, rfl, rfl, rfl, rfl, rfl, rfl, rfl, rfl, rfl, rfl, rfl, rfl, rfl, rfl, rfl, rfl, rfl, rfl, rfl, rfl, rfl, rfl, rfl, rfl, rfl, rfl, rfl, rfl, rfl, rfl, rfl, rfl, rfl, rfl, rfl, rfl, rfl, rfl, rfl, rfl, rfl, rfl, rfl, rfl, rfl, rfl, rfl, rfl, rfl, rfl, rfl, rfl, rfl, rfl, rfl, rfl, rfl, rfl, rfl, rfl, rfl, rfl, rfl, rfl, rfl, rfl, rfl, rfl, rfl, rfl, rfl, rfl, rfl, rfl, rfl, rfl, rfl, rfl, rfl, rfl, rfl, rfl, rfl, rfl, rfl, rfl, rfl, rfl, rfl, rfl, rfl, rfl, rfl, rfl, rfl, rfl, rfl, rfl, rfl⟩, rfl⟩, ⟨k19 + 1, _, (fset y19_p4 x19.key (pair_listed_f x19)), hd19'', wrap_succ hl19 hn19, hq19, H⟩, ?_⟩
            exact meas_succ hl19 hn19
        · have hc6 := hc
          clear hc
          obtain rfl := rng_f hd19 hc6
          rw [pair_table_event_l19] at hq19
          refine wp_exit ?_
          refine then_exit ?_
          refine then_exit ?_
          subst hq19
          (try dsimp only at hm)
          refine block_exit ?_
          refine then_norm ?_
          refine wp_seq ?_
          refine wp_region_lit ?_
          apply seq_op (V := .int .i64 0) rfl
          · exact fun _ h => O_as rfl rfl h
          (try simp only [PT])
          refine list_end ?_
          refine then_norm ?_
          refine wp_ret ?_
          have hm := Option.some.inj hm
          subst hm
          replace H := H.front 4 rfl; simp only [List.eraseIdx_cons_succ, List.eraseIdx_cons_zero] at H
          replace H := H.front 4 rfl; simp only [List.eraseIdx_cons_succ, List.eraseIdx_cons_zero] at H
          replace H := H.front 4 rfl; simp only [List.eraseIdx_cons_succ, List.eraseIdx_cons_zero] at H
          replace H := H.front 4 rfl; simp only [List.eraseIdx_cons_succ, List.eraseIdx_cons_zero] at H
          replace H := H.dropAt 4 rfl; simp only [List.eraseIdx_cons_succ, List.eraseIdx_cons_zero] at H
          replace H := H.forget hS
          exact ret1 rfl (rv_tmp rfl) rfl ⟨r_p0_open_, r_p0_gone, r_p0_kinds, rfl, H⟩
def pair_Check_l5 (a0 : List Ev) : Nat → List Ev → (Int → Option Int) → (Int → Option Bool) → (ByteArray → Option Bool) → Option ((((Option Flt)) ⊕ ((Int → Option Int) × (Int → Option Bool) × (ByteArray → Option Bool))))
  | k5, [] , y5_c0_0, y5_c0_1, y5_c0_2 => some (.inr (y5_c0_0, y5_c0_1, y5_c0_2))
  | k5, x5 :: r5, y5_c0_0, y5_c0_1, y5_c0_2 => (pair_table_event_f (⟨y5_c0_0, y5_c0_1, y5_c0_2⟩ : PTab) a0 (k5 : Int)).bind fun u2 => if (u2.1 != 0) = true then (some (.inl (some (⟨(k5 : Int), u2.1⟩ : Flt)))) else (pair_Check_l5 a0 (k5 + 1) r5 u2.2.open_ u2.2.gone u2.2.kinds)

def pair_Check_f (a0 : List Ev) : Option ((Option Flt)) := (histtext_Can_f a0).bind fun u1 => if (!u1) = true then (some (some (⟨0, 1⟩ : Flt))) else ((pair_Check_l5 a0 0 a0 fnil fnil fnil).bind fun | .inl z5_r => (some z5_r) | .inr (z5_c0_0, z5_c0_1, z5_c0_2) => (some none))

set_option maxHeartbeats 4000000 in
theorem pair_Check_w {E : World} {s : SH} {L : List HP} {w : World} {a0 : List Ev} {A_p0 : Option Addr} {c_p0 : Nat} (h_p0 : kEv.Sl s (.slice A_p0 a0.length c_p0) a0) {R : (Option Flt)} (hm : pair_Check_f a0 = some R) (H : Holds E s (L) w) :
    Calls Tryd.prog 69 #[.slice A_p0 a0.length c_p0] w fun e w' => e = .returned (encErr R) ∧ Holds E s (L) w' := by
  unfold pair_Check_f at hm
  go_enter Tryd.func69, Tryd.ntmps69
  refine wp_seq ?_
  refine wp_region_lit ?_
  apply seq_op (V := .nilIface) rfl
  · exact fun _ h => O_as rfl rfl h
  (try simp only [PT])
  refine list_end ?_
  refine then_norm ?_
  refine wp_seq ?_
  refine wp_seq ?_
  obtain ⟨u1, gx1, hm⟩ := bs hm
  refine wp_region_lit ?_
  apply seq_op (V := .slice A_p0 a0.length c_p0) rfl
  · exact fun _ h => O_mv rfl rfl h
  (try simp only [PT])
  refine seq_call rfl (fun Φ hΦ => by refine O_call1 rfl Tryd.func116 rfl rfl rfl hΦ) (histtext_Can_w (a0 := a0) (h_p0 := h_p0) (hm := gx1) (H := H)) ?_
  clear H
  rintro e w1 ⟨rfl, H⟩; refine ⟨_, rfl, ?_⟩
  (try simp only [PT])
  apply seq_op (V := .bool (!u1)) rfl
  · exact fun _ h => O_not rfl rfl h
  (try simp only [PT])
  refine list_end ?_
  refine then_norm ?_
  refine wp_cond_split rfl (fun hc => ?_) (fun hc => ?_)
  · have hc1 := hc
    clear hc
    replace hm := ifT hc1 hm
    refine wp_seq ?_
    refine wp_region_lit ?_
    apply seq_op (V := .agg #[.int .i64 0, .int .i64 1]) rfl
    · exact fun _ h => O_bld (cs := [.int .i64 0, .int .i64 1]) rfl (by kernel_rfl) h
    (try simp only [PT])
    apply seq_op (V := .iface 124 (.agg #[.int .i64 0, .int .i64 1])) rfl
    · exact fun _ h => O_mkis rfl Tryd.underlying124 rfl h
    (try simp only [PT])
    apply seq_op (V := .iface 124 (.agg #[.int .i64 0, .int .i64 1])) rfl
    · exact fun _ h => O_as rfl rfl h
    (try simp only [PT])
    refine list_end ?_
    refine then_norm ?_
    refine wp_ret ?_
    refine then_ret ?_
    have hm := Option.some.inj hm
    subst hm
    exact ret1 rfl (rv_tmp rfl) rfl ⟨rfl, H⟩
  · have hc1 := hc
    clear hc
    replace hm := ifF hc1 hm
    refine wp_skip ?_
    refine then_norm ?_
    refine wp_seq ?_
    refine wp_region_lit ?_
    refine OpG.list rfl ?_; refine F_make (K := kcI) (V := vcI) 34 rfl H ?_; clear H; intro r11 w1 H
    (try simp only [PT])
    refine OpG.list rfl ?_; refine F_make (K := kcI) (V := vcB) 183 rfl H ?_; clear H; intro r12 w1 H
    (try simp only [PT])
    refine OpG.list rfl ?_; refine F_make (K := kcS) (V := vcB) 169 rfl H ?_; clear H; intro r13 w1 H
    (try simp only [PT])
    apply seq_op (V := .agg #[.map (some r11), .map (some r12), .map (some r13)]) rfl
    · exact fun _ h => O_bld (cs := [.map (some r11), .map (some r12), .map (some r13)]) rfl (by kernel_rfl) h
    (try simp only [PT])
    refine OpG.list rfl ?_; refine B_x 185 _ rfl (v := .agg #[.map (some r11), .map (some r12), .map (some r13)]) rfl H ?_; clear H; intro b15 w1 H; (try simp only [Value.cells] at H)
    (try simp only [PT])
    apply seq_op (V := .pointer (some ⟨b15, 0, none⟩)) rfl
    · exact fun _ h => O_as rfl rfl h
    (try simp only [PT])
    refine list_end ?_
    refine then_norm ?_
    refine wp_seq ?_
    refine wp_seq ?_
    refine wp_region_lit ?_
    apply seq_op (V := .slice A_p0 a0.length c_p0) rfl
    · exact fun _ h => O_mv rfl rfl h
    (try simp only [PT])
    apply seq_op (V := .int .i64 (a0.length : Int)) rfl
    · exact fun _ h => O_len rfl Tryd.underlying55 rfl h
    (try simp only [PT])
    apply seq_op (V := .int .i64 0) rfl
    · exact fun _ h => O_mv rfl rfl h
    (try simp only [PT])
    refine list_end ?_
    refine then_norm ?_
    refine wp_block ?_
    obtain ⟨R5, hq5, hm⟩ := bs hm
    have hn5 := Nat.le_trans (len_le (d := kEv) h_p0 (by decide)) (by decide : (140737488355328 : Nat) ≤ 9223372036854775807)
    refine wp_loopF [none, none, some 2, none, some 4, some 5, none, none, none, none, none, none, none, none, none, none, none, none, some 18, some 19, some 20, some 21, some 22, some 23, some 24, some 25, some 26, some 27, some 28, some 29, some 30, some 31] rfl (by simp) (fun f w => ∃ (k5 : Nat) (r5 : List Ev) (y5_c0_0 : Int → Option Int) (r_y5_c0_0 : Nat) (y5_c0_1 : Int → Option Bool) (r_y5_c0_1 : Nat) (y5_c0_2 : ByteArray → Option Bool) (r_y5_c0_2 : Nat), a0.drop k5 = r5 ∧ f 18 = .int .i64 (k5 : Int) ∧ pair_Check_l5 a0 k5 r5 y5_c0_0 y5_c0_1 y5_c0_2 = some R5 ∧ Holds E s (pt b15 (.cells #[.map (some r_y5_c0_0), .map (some r_y5_c0_1), .map (some r_y5_c0_2)] 185 (0, 0)) :: mpF kcS vcB r_y5_c0_2 y5_c0_2 :: mpF kcI vcB r_y5_c0_1 y5_c0_1 :: mpF kcI vcI r_y5_c0_0 y5_c0_0 :: L) w) (fun f w => a0.length - (intOf (f 18)).toNat) ?_ ?_
    · exact ⟨0, a0, fnil, r11, fnil, r12, fnil, r13, rfl, rfl, hq5, H⟩
    · clear H
      intro f w hI
      obtain ⟨k5, r5, y5_c0_0, r_y5_c0_0, y5_c0_1, r_y5_c0_1, y5_c0_2, r_y5_c0_2, hd5, hf18, hq5', H⟩ := hI
      clear hq5; have hq5 := hq5'; clear hq5'
      simp only [ovm, mixM]
      simp only [hf18]; clear hf18
      refine wp_seq ?_
      refine wp_region_lit ?_
      apply seq_op (V := .bool (decide ((k5 : Int) < (a0.length : Int)))) rfl
      · exact fun _ h => O_bin rfl rfl rfl eqg_int r_lss h
      (try simp only [PT])
      refine list_end ?_
      refine then_norm ?_
      refine wp_seq ?_
      refine wp_cond_split rfl (fun hc => ?_) (fun hc => ?_)
      · have hc2 := hc
        clear hc
        obtain ⟨x5, r5', rfl, hd5', hd5'', hl5⟩ := rng_t hd5 hc2
        rw [pair_Check_l5] at hq5
        refine wp_skip ?_
        refine then_norm ?_
        refine wp_seq ?_
        refine wp_block ?_
        refine wp_seq ?_
        refine wp_region_lit ?_
        apply seq_op (V := .int .i64 (k5 : Int)) rfl
        · exact fun _ h => O_mv rfl rfl h
        (try simp only [PT])
        apply seq_op (V := .int .i64 (k5 : Int)) rfl
        · exact fun _ h => O_as rfl rfl h
        (try simp only [PT])
        refine list_end ?_
        refine then_norm ?_
        refine wp_seq ?_
        obtain ⟨u2, gx2, hq5⟩ := bs hq5
        refine wp_region_lit ?_
        apply seq_op (V := .pointer (some ⟨b15, 0, none⟩)) rfl
        · exact fun _ h => O_mv rfl rfl h
        (try simp only [PT])
        apply seq_op (V := .slice A_p0 a0.length c_p0) rfl
        · exact fun _ h => O_mv rfl rfl h
        (try simp only [PT])
        apply seq_op (V := .int .i64 (k5 : Int)) rfl
        · exact fun _ h => O_mv rfl rfl h
        (try simp only [PT])
        replace H := H.front 1 rfl; simp only [List.eraseIdx_cons_succ, List.eraseIdx_cons_zero] at H
        replace H := H.front 2 rfl; simp only [List.eraseIdx_cons_succ, List.eraseIdx_cons_zero] at H
        replace H := H.front 3 rfl; simp only [List.eraseIdx_cons_succ, List.eraseIdx_cons_zero] at H
        replace H := H.front 3 rfl; simp only [List.eraseIdx_cons_succ, List.eraseIdx_cons_zero] at H
        refine seq_call rfl (fun Φ hΦ => by refine O_call3 rfl Tryd.func117 rfl rfl rfl rfl rfl hΦ) (pair_table_event_w (a0 := (⟨y5_c0_0, y5_c0_1, y5_c0_2⟩ : PTab)) (a1 := a0) (h_p1 := h_p0) (a2 := (k5 : Int)) (hm := gx2) (H := H)) ?_
        clear H
        rintro e w1 ⟨rr2o0_open_, rr2o0_gone, rr2o0_kinds, rfl, H⟩; refine ⟨_, rfl, ?_⟩
        (try simp only [PT])
        apply seq_op (V := .int .i64 u2.1) rfl
        · exact fun _ h => O_as rfl rfl h
        (try simp only [PT])
        refine list_end ?_
        refine then_norm ?_
        refine wp_seq ?_
        refine wp_region_lit ?_
        apply seq_op (V := .int .i64 u2.1) rfl
        · exact fun _ h => O_mv rfl rfl h
        (try simp only [PT])
        apply seq_op (V := .bool (u2.1 != 0)) rfl
        · exact fun _ h => O_bin rfl rfl rfl eqg_int r_neq h
        (try simp only [PT])
        refine list_end ?_
        refine then_norm ?_
        refine wp_cond_split rfl (fun hc => ?_) (fun hc => ?_)
        · have hc3 := hc
          clear hc
          replace hq5 := ifT hc3 hq5
          refine wp_seq ?_
          refine wp_region_lit ?_
          apply seq_op (V := .int .i64 (k5 : Int)) rfl
          · exact fun _ h => O_mv rfl rfl h
          (try simp only [PT])
          apply seq_op (V := .int .i64 u2.1) rfl
          · exact fun _ h => O_mv rfl rfl h
          (try simp only [PT])
          apply seq_op (V := .agg #[.int .i64 (k5 : Int), .int .i64 u2.1]) rfl
          · exact fun _ h => O_bld (cs := [.int .i64 (k5 : Int), .int .i64 u2.1]) rfl (by kernel_rfl) h
          (try simp only [PT])
          apply seq_op (V := .iface 124 (.agg #[.int .i64 (k5 : Int), .int .i64 u2.1])) rfl
          · exact fun _ h => O_mkis rfl Tryd.underlying124 rfl h
          (try simp only [PT])
          apply seq_op (V := .iface 124 (.agg #[.int .i64 (k5 : Int), .int .i64 u2.1])) rfl
          · exact fun _ h => O_as rfl rfl h
          (try simp only [PT])
          refine list_end ?_
          refine then_norm ?_
          refine wp_ret ?_
          refine block_ret ?_
          refine then_ret ?_
          refine then_ret ?_
          refine block_ret ?_
          refine then_ret ?_
          have hq5 := Option.some.inj hq5
          subst hq5
          (try dsimp only at hm)
          have hm := Option.some.inj hm
          subst hm
          replace H := H.dropAt 3 rfl; simp only [List.eraseIdx_cons_succ, List.eraseIdx_cons_zero] at H
          replace H := H.dropAt 2 rfl; simp only [List.eraseIdx_cons_succ, List.eraseIdx_cons_zero] at H
          replace H := H.dropAt 1 rfl; simp only [List.eraseIdx_cons_succ, List.eraseIdx_cons_zero] at H
          replace H := H.dropAt 0 rfl; simp only [List.eraseIdx_cons_succ, List.eraseIdx_cons_zero] at H
          exact ret1 rfl (rv_tmp rfl) rfl ⟨rfl, H⟩
        · have hc3 := hc
          clear hc
          replace hq5 := ifF hc3 hq5
          refine wp_skip ?_
          refine block_norm ?_
          refine then_norm ?_
          refine wp_region_lit ?_
          apply seq_op (V := .int .i64 (IntKind.i64.wrap ((k5 : Int) + 1))) rfl
          · exact fun _ h => O_bin rfl rfl rfl eqg_int r_add h
          (try simp only [PT])
          apply seq_op (V := .int .i64 (IntKind.i64.wrap ((k5 : Int) + 1))) rfl
          · exact fun _ h => O_mv rfl rfl h
          (try simp only [PT])
          refine list_end ?_
          refine then_norm ?_
          replace H := H.front 1 rfl; simp only [List.eraseIdx_cons_succ, List.eraseIdx_cons_zero] at H
          replace H := H.front 2 rfl; simp only [List.eraseIdx_cons_succ, List.eraseIdx_cons_zero] at H
          replace H := H.front 3 rfl; simp only [List.eraseIdx_cons_succ, List.eraseIdx_cons_zero] at H
          replace H := H.front 3 rfl; simp only [List.eraseIdx_cons_succ, List.eraseIdx_cons_zero] at H
          refine ⟨⟨⟨rfl, rfl, rfl, rfl, rfl, rfl, rfl, rfl, rfl, rfl, rfl, rfl, rfl, rfl, rfl, rfl⟩, rfl⟩, ⟨k5 + 1, _, u2.2.open_, rr2o0_open_, u2.2.gone, rr2o0_gone, u2.2.kinds, rr2o0_kinds, hd5'', wrap_succ hl5 hn5, hq5, H⟩, ?_⟩
          exact meas_succ hl5 hn5
      · have hc2 := hc
        clear hc
        obtain rfl := rng_f hd5 hc2
        rw [pair_Check_l5] at hq5
        refine wp_exit ?_
        refine then_exit ?_
        refine then_exit ?_
        have hq5 := Option.some.inj hq5
        subst hq5
        (try dsimp only at hm)
        refine block_exit ?_
        refine then_norm ?_
        refine wp_seq ?_
        refine wp_region_lit ?_
        apply seq_op (V := .nilIface) rfl
        · exact fun _ h => O_as rfl rfl h
        (try simp only [PT])
        refine list_end ?_
        refine then_norm ?_
        refine wp_ret ?_
        have hm := Option.some.inj hm
        subst hm
        replace H := H.dropAt 3 rfl; simp only [List.eraseIdx_cons_succ, List.eraseIdx_cons_zero] at H
        replace H := H.dropAt 2 rfl; simp only [List.eraseIdx_cons_succ, List.eraseIdx_cons_zero] at H
        replace H := H.dropAt 1 rfl; simp only [List.eraseIdx_cons_succ, List.eraseIdx_cons_zero] at H
        replace H := H.dropAt 0 rfl; simp only [List.eraseIdx_cons_succ, List.eraseIdx_cons_zero] at H
        exact ret1 rfl (rv_tmp rfl) rfl ⟨rfl, H⟩
end Go.Proofs.YtemdmpgekegfhaaDoor
