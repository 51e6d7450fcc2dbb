/- Walks, printed by fx.py: part 5. -/
import Derived.Test.YtemdmpgekegfhaaDoorPob4
namespace Go.Proofs.YtemdmpgekegfhaaDoor
open Go.RowKit
set_option linter.all false
set_option maxRecDepth 10000
theorem rem_i {k : IntKind} {x y v : Int} (h : remI k x y = some v) (h1 : 0 < y) (h2 : y ≤ 9223372036854775807) : Kin.inI64 v := by
  unfold remI at h
  rw [if_neg (by omega)] at h
  cases h
  have a := Int.tmod_lt_of_pos x h1
  have b : -y < x.tmod y := by
    rcases Int.le_total 0 x with hx | hx
    · have := Int.tmod_nonneg y hx; omega
    · have e : x.tmod y = -((-x).tmod y) := by rw [Int.neg_tmod]; omega
      have := Int.tmod_lt_of_pos (-x) h1
      omega
  unfold Kin.inI64; omega
def assayerlaw03_PairApart_l3 (a1 : Int) : Nat → Nat → (List Ev) → Option (((List Ev)))
  | k3, 0, y3_p0 => some y3_p0
  | k3, r3 + 1, y3_p0 => (rdI y3_p0 (k3 : Int)).bind fun u2 => if ((decide (u2.proc ≥ 0)) && (decide (u2.proc ≤ 99))) = true then ((remI .u64 (IntKind.u64.wrap a1) 99).bind fun u3 => (remI .i64 (IntKind.i64.wrap ((IntKind.i64.wrap (u2.proc + 1)) + (IntKind.i64.wrap u3))) 100).bind fun u4 => assayerlaw03_PairApart_l3 a1 (k3 + 1) r3 (setI y3_p0 (k3 : Int) (⟨u2.kind, u4, u2.ops⟩ : Ev))) else (assayerlaw03_PairApart_l3 a1 (k3 + 1) r3 y3_p0)

def assayerlaw03_PairApart_l15 (u5 : (List Txn) × (Option Flt)) : Nat → Nat → (List Txn) → Option (((List Txn)))
  | k15, 0, y15_p0 => some y15_p0
  | k15, r15 + 1, y15_p0 => (rdI u5.1 (k15 : Int)).bind fun u8 => (rdI y15_p0 (k15 : Int)).bind fun u9 => assayerlaw03_PairApart_l15 u5 (k15 + 1) r15 (setI y15_p0 (k15 : Int) (⟨u8.proc, u9.state, u9.from_, u9.to, u9.ops⟩ : Txn))

def assayerlaw03_PairApart_f (fuel : Nat) (a0 : List Ev) (a1 : Int) : Option Bool := (assayerplain_Events_f a0).bind fun u1 => (assayerlaw03_PairApart_l3 a1 0 ((u1.length : Int)).toNat u1).bind fun z3_p0 => (pair_Txns_f a0).bind fun u5 => (pair_Txns_f z3_p0).bind fun u6 => (assayerref03_Check_f fuel a0).bind fun u7 => if (((!(assayerplain_Is_f u5.2 u7.1 u7.2)) || (!(assayerplain_Is_f u6.2 u7.1 u7.2))) || ((u5.1.length : Int) != (u6.1.length : Int))) = true then (some false) else ((assayerlaw03_PairApart_l15 u5 0 ((u5.1.length : Int)).toNat u6.1).bind fun z15_p0 => (assayerplain_SameTxns_f u5.1 z15_p0).bind fun u10 => some u10)

set_option maxHeartbeats 4000000 in
theorem assayerlaw03_PairApart_w {E : World} {s : SH} {L : List HP} {w : World} {fuel : Nat} {a0 : List Ev} {a1 : Int} (h_gv : Eg s) {A_p0 : Option Addr} {c_p0 : Nat} (h_p0 : kEv.Sl s (.slice A_p0 a0.length c_p0) a0) {R : Bool} (hm : assayerlaw03_PairApart_f fuel a0 a1 = some R) (H : Holds E s (L) w) :
    Calls Tryd.prog 8 #[.slice A_p0 a0.length c_p0, .int .i64 a1] w fun e w' => e = .returned (.bool R) ∧ Holds E s (L) w' := by
  unfold assayerlaw03_PairApart_f at hm
  go_enter Tryd.func8, Tryd.ntmps8
  refine wp_seq ?_
  refine wp_region_lit ?_
  apply seq_op (V := .bool false) rfl
  · exact fun _ h => O_as rfl rfl h
  (try simp only [PT])
  refine list_end ?_
  refine then_norm ?_
  refine wp_seq ?_
  obtain ⟨u1, gx1, hm⟩ := bs hm
  refine wp_region_lit ?_
  apply seq_op (V := .slice A_p0 a0.length c_p0) rfl
  · exact fun _ h => O_mv rfl rfl h
  (try simp only [PT])
  refine seq_call rfl (fun Φ hΦ => by refine O_call1 rfl Tryd.func30 rfl rfl rfl hΦ) (assayerplain_Events_w (a0 := a0) (h_p0 := h_p0) (hm := gx1) (H := H)) ?_
  clear H
  rintro e w1 ⟨Ar10, cr10, nr10, s1, rfl, hs', H⟩; refine ⟨_, rfl, ?_⟩
  obtain rfl := osl_len 0 H rfl
  replace h_gv := h_gv.mono hs'
  replace h_p0 := h_p0.mono hs'
  have hS := hs'
  (try simp only [PT])
  apply seq_op (V := .slice Ar10 u1.length cr10) rfl
  · exact fun _ h => O_as rfl rfl h
  (try simp only [PT])
  refine list_end ?_
  refine then_norm ?_
  refine wp_seq ?_
  refine wp_seq ?_
  have gn1 : Kin.inI64 ((u1.length : Nat) : Int) := osl_i 0 H rfl (by decide : 0 < kEv.by_)
  refine wp_region_lit ?_
  apply seq_op (V := .slice Ar10 u1.length cr10) rfl
  · exact fun _ h => O_mv rfl rfl h
  (try simp only [PT])
  apply seq_op (V := .int .i64 (u1.length : Int)) rfl
  · exact fun _ h => O_len rfl Tryd.underlying55 rfl h
  (try simp only [PT])
  apply seq_op (V := .int .i64 0) rfl
  · exact fun _ h => O_mv rfl rfl h
  (try simp only [PT])
  refine list_end ?_
  refine then_norm ?_
  refine wp_block ?_
  obtain ⟨R3, hq3, hm⟩ := bs hm
  have hn3 := int_le gn1
  refine wp_loopF [none, none, none, none, none, none, some 6, some 7, none, none, none, none, none, none, none, none, none, none, none, some 19, some 20, some 21, some 22, some 23, some 24, some 25, some 26, some 27, some 28, some 29, some 30, some 31, some 32, some 33, some 34, some 35, some 36, some 37, some 38, some 39, some 40, some 41, some 42, some 43, some 44, some 45, none, none, none, none, none, none, none, none, none, none, none, none, none, none, none, none, none, none, none, none, none, none, none, none, none, none, none, none, none, none, none, none, none, none, none, none, none, none, none, none, none, none, none, none, none, none, none, none, none, none, none, none] rfl (by simp) (fun f w => ∃ (k3 : Nat) (r3 : Nat) (y3_p0 : List Ev), k3 + r3 = ((u1.length : Int)).toNat ∧ f 19 = .int .i64 (k3 : Int) ∧ assayerlaw03_PairApart_l3 a1 k3 r3 y3_p0 = some R3 ∧ Holds E s1 ((kEv.sh s1).Osl (.slice Ar10 u1.length cr10) y3_p0 :: L) w) (fun f w => ((u1.length : Int)).toNat - (intOf (f 19)).toNat) ?_ ?_
  · exact ⟨0, _, u1, Nat.zero_add _, rfl, hq3, H⟩
  · clear H
    intro f w hI
    obtain ⟨k3, r3, y3_p0, hd3, hf19, hq3', H⟩ := hI
    clear hq3; have hq3 := hq3'; clear hq3'
    simp only [ovm, mixM]
    simp only [hf19]; clear hf19
    refine wp_seq ?_
    refine wp_region_lit ?_
    apply seq_op (V := .bool (decide ((k3 : Int) < (u1.length : Int)))) rfl
    · exact fun _ h => O_bin rfl rfl rfl eqg_int r_lss h
    (try simp only [PT])
    refine list_end ?_
    refine then_norm ?_
    refine wp_seq ?_
    refine wp_cond_split rfl (fun hc => ?_) (fun hc => ?_)
    · have hc1 := hc
      clear hc
      obtain ⟨r3', rfl, hl3, hd3''⟩ := irng_t hd3 hc1
      rw [assayerlaw03_PairApart_l3] at hq3
      refine wp_skip ?_
      refine then_norm ?_
      refine wp_seq ?_
      refine wp_block ?_
      refine wp_seq ?_
      refine wp_region_lit ?_
      apply seq_op (V := .int .i64 (k3 : Int)) rfl
      · exact fun _ h => O_mv rfl rfl h
      (try simp only [PT])
      apply seq_op (V := .int .i64 (k3 : Int)) rfl
      · exact fun _ h => O_as rfl rfl h
      (try simp only [PT])
      refine list_end ?_
      refine then_norm ?_
      refine wp_seq ?_
      obtain ⟨u2, gx2, hq3⟩ := bs hq3
      obtain ⟨kk1, gk1, gl1, gd1⟩ := rdI_some gx2
      obtain ⟨bokk1, rfl⟩ := own_addr 0 H rfl (fun e => by rw [e] at gl1; exact absurd gl1 (Nat.not_lt_zero _))
      have gngl1 := Nat.lt_of_lt_of_eq gl1 (osl_len 0 H rfl).symm
      obtain ⟨cse1, hKe1⟩ := own_has 0 H rfl gd1; obtain ⟨_, _, -, h0e1, h1e1, -⟩ := kEv_op hKe1
      refine wp_region_lit ?_
      apply seq_op (V := .slice (some ⟨bokk1, 0, none⟩) u1.length cr10) rfl
      · exact fun _ h => O_mv rfl rfl h
      (try simp only [PT])
      apply seq_op (V := .int .i64 (k3 : Int)) rfl
      · exact fun _ h => O_mv rfl rfl h
      (try simp only [PT])
      apply seq_op (V := .pointer (some ⟨bokk1, kk1 * 3, none⟩)) rfl
      · exact fun _ h => O_ixn rfl Tryd.underlying55 (Tryd.sizeOf73 _) rfl rfl gk1 gngl1 h
      (try simp only [PT])
      apply seq_op (V := .pointer (some ⟨bokk1, kk1 * 3 + 1, none⟩)) rfl
      · exact fun _ h => O_fld rfl Tryd.underlying73 rfl (Tryd.sizeOf3 _) rfl h
      (try simp only [PT])
      apply seq_op (V := .int .i64 u2.proc) rfl
      · intro Φ hΦ; refine G_ownget (d := kEv) (f := 1) 0 _ _ rfl (Tryd.isAgg3 _) rfl rfl H rfl gd1 (fun cs h => by obtain ⟨_, _, rfl, _⟩ := kEv_op h; rfl) ?_; exact hΦ
      (try simp only [PT])
      apply seq_op (V := .int .i64 u2.proc) rfl
      · exact fun _ h => O_as rfl rfl h
      (try simp only [PT])
      refine list_end ?_
      refine then_norm ?_
      refine wp_seq ?_
      refine wp_region_lit ?_
      apply seq_op (V := .int .i64 u2.proc) rfl
      · exact fun _ h => O_mv rfl rfl h
      (try simp only [PT])
      apply seq_op (V := .bool (decide (u2.proc ≥ 0))) rfl
      · exact fun _ h => O_bin rfl rfl rfl eqg_int r_geq h
      (try simp only [PT])
      apply seq_op (V := .bool (decide (u2.proc ≥ 0))) rfl
      · exact fun _ h => O_mv rfl rfl h
      (try simp only [PT])
      refine seq_opg (c := (decide (u2.proc ≥ 0))) (V := .int .i64 u2.proc) (by first | exact wanted_t rfl rfl rfl | exact wanted_vt rfl rfl rfl) ?_ ?_
      · intro hc Φ hΦ; refine O_mv rfl rfl ?_; exact hΦ
      (try simp only [PT])
      refine seq_opg (c := (decide (u2.proc ≥ 0))) (V := .bool (decide (u2.proc ≤ 99))) (by first | exact wanted_t rfl rfl rfl | exact wanted_vt rfl rfl rfl) ?_ ?_
      · intro hc Φ hΦ; (repeat (first | rw [vg_of hc] | rw [vg_of (and_l hc)] | rw [vg_of (and_l (and_l hc))] | rw [vg_of (and_l (and_l (and_l hc)))] | rw [vg_and hc])); refine O_bin rfl rfl rfl eqg_int r_leq ?_; exact hΦ
      (try simp only [PT])
      apply seq_op (V := .bool ((decide (u2.proc ≥ 0)) && (decide (u2.proc ≤ 99)))) rfl
      · exact fun _ h => G_and _ _ _ rfl rfl rfl rfl h
      (try simp only [PT])
      refine list_end ?_
      refine then_norm ?_
      refine wp_cond_split rfl (fun hc => ?_) (fun hc => ?_)
      · have hc2 := hc
        clear hc
        replace hq3 := ifT hc2 hq3
        obtain ⟨u3, gx3, hq3⟩ := bs hq3
        obtain ⟨u4, gx4, hq3⟩ := bs hq3
        refine wp_region_lit ?_
        apply seq_op (V := .slice (some ⟨bokk1, 0, none⟩) u1.length cr10) rfl
        · exact fun _ h => O_mv rfl rfl h
        (try simp only [PT])
        apply seq_op (V := .int .i64 (k3 : Int)) rfl
        · exact fun _ h => O_mv rfl rfl h
        (try simp only [PT])
        apply seq_op (V := .int .i64 u2.proc) rfl
        · exact fun _ h => O_mv rfl rfl h
        (try simp only [PT])
        apply seq_op (V := .int .i64 (IntKind.i64.wrap (u2.proc + 1))) rfl
        · exact fun _ h => O_bin rfl rfl rfl eqg_int r_add h
        (try simp only [PT])
        apply seq_op (V := .int .i64 a1) rfl
        · exact fun _ h => O_mv rfl rfl h
        (try simp only [PT])
        apply seq_op (V := .int .u64 (IntKind.u64.wrap a1)) rfl
        · intro Φ hΦ; refine O_cnv rfl (by rw [Tryd.underlying3]; rfl) Tryd.underlying76 rfl ?_; exact hΦ
        (try simp only [PT])
        apply seq_op (V := .int .u64 u3) rfl
        · exact fun _ h => O_bin rfl rfl rfl eqg_int (r_rem gx3) h
        (try simp only [PT])
        apply seq_op (V := .int .i64 (IntKind.i64.wrap u3)) rfl
        · intro Φ hΦ; refine O_cnv rfl (by rw [Tryd.underlying76]; rfl) Tryd.underlying3 rfl ?_; exact hΦ
        (try simp only [PT])
        apply seq_op (V := .int .i64 (IntKind.i64.wrap ((IntKind.i64.wrap (u2.proc + 1)) + (IntKind.i64.wrap u3)))) rfl
        · exact fun _ h => O_bin rfl rfl rfl eqg_int r_add h
        (try simp only [PT])
        apply seq_op (V := .int .i64 u4) rfl
        · exact fun _ h => O_bin rfl rfl rfl eqg_int (r_rem gx4) h
        (try simp only [PT])
        apply seq_op (V := .pointer (some ⟨bokk1, kk1 * 3, none⟩)) rfl
        · exact fun _ h => O_ixn rfl Tryd.underlying55 (Tryd.sizeOf73 _) rfl rfl gk1 gngl1 h
        (try simp only [PT])
        apply seq_op (V := .pointer (some ⟨bokk1, kk1 * 3 + 1, none⟩)) rfl
        · exact fun _ h => O_fld rfl Tryd.underlying73 rfl (Tryd.sizeOf3 _) rfl h
        (try simp only [PT])
        refine OpG.list rfl ?_; refine G_ownsetF (d := kEv) 0 _ _ _ rfl (Tryd.sizeOf3 _) (f := 1) (v := .int .i64 u4) (x' := (⟨u2.kind, u4, u2.ops⟩ : Ev)) rfl rfl (by decide) rfl H rfl gk1 gd1 rfl (fun cs h => by obtain ⟨_, _, rfl, h0', -, h2'⟩ := kEv_op h; exact kEv_mk' (s := s1) (x := (⟨u2.kind, u4, u2.ops⟩ : Ev)) h0' (rem_i gx4 (by decide) (by decide)) h2') ?_; clear H; intro w1 H; simp only [List.set_cons_succ, List.set_cons_zero] at H
        (try simp only [PT])
        obtain ⟨gd2, gl2⟩ := setI_drop (x := (⟨u2.kind, u4, u2.ops⟩ : Ev)) gk1 gl1
        refine list_end ?_
        refine block_norm ?_
        refine then_norm ?_
        refine wp_region_lit ?_
        apply seq_op (V := .int .i64 (IntKind.i64.wrap ((k3 : Int) + 1))) rfl
        · exact fun _ h => O_bin rfl rfl rfl eqg_int r_add h
        (try simp only [PT])
        apply seq_op (V := .int .i64 (IntKind.i64.wrap ((k3 : Int) + 1))) rfl
        · exact fun _ h => O_mv rfl rfl h
        (try simp only [PT])
        refine list_end ?_
        refine then_norm ?_
        refine ⟨⟨⟨rfl, rfl, rfl, rfl, rfl, rfl, rfl, rfl, rfl, rfl, rfl, rfl, rfl, rfl, rfl, rfl, rfl, rfl, rfl, rfl, rfl, rfl, rfl, rfl, rfl, rfl, rfl, rfl, rfl, rfl, rfl, rfl, rfl, rfl, rfl, rfl, rfl, rfl, rfl, rfl, rfl, rfl, rfl, rfl, rfl, rfl, rfl, rfl, rfl, rfl, rfl, rfl, rfl, rfl, rfl, rfl, rfl, rfl, rfl, rfl, rfl, rfl, rfl, rfl, rfl, rfl, rfl, rfl, rfl, rfl⟩, rfl⟩, ⟨k3 + 1, r3', (setI y3_p0 (k3 : Int) (⟨u2.kind, u4, u2.ops⟩ : Ev)), hd3'', wrap_succ hl3 hn3, hq3, H⟩, ?_⟩
        exact meas_succ hl3 hn3
      · have hc2 := hc
        clear hc
        replace hq3 := ifF hc2 hq3
        refine wp_skip ?_
        refine block_norm ?_
        refine then_norm ?_
        refine wp_region_lit ?_
        apply seq_op (V := .int .i64 (IntKind.i64.wrap ((k3 : Int) + 1))) rfl
        · exact fun _ h => O_bin rfl rfl rfl eqg_int r_add h
        (try simp only [PT])
        apply seq_op (V := .int .i64 (IntKind.i64.wrap ((k3 : Int) + 1))) rfl
        · exact fun _ h => O_mv rfl rfl h
        (try simp only [PT])
        refine list_end ?_
        refine then_norm ?_
        refine ⟨⟨⟨rfl, rfl, rfl, rfl, rfl, rfl, rfl, rfl, rfl, rfl, rfl, rfl, rfl, rfl, rfl, rfl, rfl, rfl, rfl, rfl, rfl, rfl, rfl, rfl, rfl, rfl, rfl, rfl, rfl, rfl, rfl, rfl, rfl, rfl, rfl, rfl, rfl, rfl, rfl, rfl, rfl, rfl, rfl, rfl, rfl, rfl, rfl, rfl, rfl, rfl, rfl, rfl, rfl, rfl, rfl, rfl, rfl, rfl, rfl, rfl, rfl, rfl, rfl, rfl, rfl, rfl, rfl, rfl, rfl, rfl⟩, rfl⟩, ⟨k3 + 1, r3', y3_p0, hd3'', wrap_succ hl3 hn3, hq3, H⟩, ?_⟩
        exact meas_succ hl3 hn3
    · have hc1 := hc
      clear hc
      obtain rfl := irng_f hd3 hc1
      rw [assayerlaw03_PairApart_l3] at hq3
      refine wp_exit ?_
      refine then_exit ?_
      refine then_exit ?_
      have hq3 := Option.some.inj hq3
      subst hq3
      (try dsimp only at hm)
      refine block_exit ?_
      refine then_norm ?_
      refine wp_seq ?_
      have hq := osl_len 0 H rfl; (try rw [hq]); rw [hq] at H; clear hq
      obtain ⟨u5, gx5, hm⟩ := bs hm
      refine wp_region_lit ?_
      apply seq_op (V := .slice A_p0 a0.length c_p0) rfl
      · exact fun _ h => O_mv rfl rfl h
      (try simp only [PT])
      refine seq_call rfl (fun Φ hΦ => by refine O_call1 rfl Tryd.func31 rfl rfl rfl hΦ) (pair_Txns_w (a0 := a0) (h_p0 := h_p0) (h_gv := h_gv) (hm := gx5) (H := H)) ?_
      clear H
      rintro e w1 ⟨Ar20, cr20, nr20, s2, rfl, hs', H⟩; refine ⟨_, rfl, ?_⟩
      obtain rfl := osl_len 0 H rfl
      replace h_gv := h_gv.mono hs'
      replace h_p0 := h_p0.mono hs'
      replace H := Holds.mapAt (A := (kEv.sh s1).Osl (.slice Ar10 y3_p0.length cr10) y3_p0) (B := (kEv.sh s2).Osl (.slice Ar10 y3_p0.length cr10) y3_p0) 1 rfl (fun h k => Kin.Osl.sh_mono (d := kEv) hs' h k) H; simp only [List.set_cons_succ, List.set_cons_zero] at H
      replace hS := hS.trans hs'
      (try simp only [PT])
      apply seq_op (V := .tuple #[.slice Ar20 u5.1.length cr20, encErr u5.2]) rfl
      · exact fun _ h => O_mv rfl rfl h
      (try simp only [PT])
      apply seq_op (V := .slice Ar20 u5.1.length cr20) rfl
      · exact fun _ h => O_ext rfl rfl rfl h
      (try simp only [PT])
      apply seq_op (V := encErr u5.2) rfl
      · exact fun _ h => O_ext rfl rfl rfl h
      (try simp only [PT])
      apply seq_op (V := .slice Ar20 u5.1.length cr20) rfl
      · exact fun _ h => O_as rfl rfl h
      (try simp only [PT])
      apply seq_op (V := encErr u5.2) rfl
      · exact fun _ h => O_as rfl rfl h
      (try simp only [PT])
      refine list_end ?_
      refine then_norm ?_
      refine wp_seq ?_
      obtain ⟨u6, gx6, hm⟩ := bs hm
      refine wp_region_lit ?_
      apply seq_op (V := .slice Ar10 y3_p0.length cr10) rfl
      · exact fun _ h => O_mv rfl rfl h
      (try simp only [PT])
      replace H := H.front 1 rfl; simp only [List.eraseIdx_cons_succ, List.eraseIdx_cons_zero] at H
      obtain ⟨s3, hs', H, hf1⟩ := Kin.Osl.fr H; replace hf1 := hf1.unsh hs'
      replace h_gv := h_gv.mono hs'
      replace h_p0 := h_p0.mono hs'
      replace H := Holds.mapAt (A := (kT.sh s2).Osl (.slice Ar20 u5.1.length cr20) u5.1) (B := (kT.sh s3).Osl (.slice Ar20 u5.1.length cr20) u5.1) 0 rfl (fun h k => Kin.Osl.sh_mono (d := kT) hs' h k) H; simp only [List.set_cons_succ, List.set_cons_zero] at H
      replace hS := hS.trans hs'
      refine seq_call rfl (fun Φ hΦ => by refine O_call1 rfl Tryd.func31 rfl rfl rfl hΦ) (pair_Txns_w (a0 := y3_p0) (h_p0 := hf1) (h_gv := h_gv) (hm := gx6) (H := H)) ?_
      clear H
      rintro e w1 ⟨Ar30, cr30, nr30, s4, rfl, hs', H⟩; refine ⟨_, rfl, ?_⟩
      obtain rfl := osl_len 0 H rfl
      replace h_gv := h_gv.mono hs'
      replace h_p0 := h_p0.mono hs'
      replace hf1 := hf1.mono hs'
      replace H := Holds.mapAt (A := (kT.sh s3).Osl (.slice Ar20 u5.1.length cr20) u5.1) (B := (kT.sh s4).Osl (.slice Ar20 u5.1.length cr20) u5.1) 1 rfl (fun h k => Kin.Osl.sh_mono (d := kT) hs' h k) H; simp only [List.set_cons_succ, List.set_cons_zero] at H
      replace hS := hS.trans hs'
      (try simp only [PT])
      apply seq_op (V := .tuple #[.slice Ar30 u6.1.length cr30, encErr u6.2]) rfl
      · exact fun _ h => O_mv rfl rfl h
      (try simp only [PT])
      apply seq_op (V := .slice Ar30 u6.1.length cr30) rfl
      · exact fun _ h => O_ext rfl rfl rfl h
      (try simp only [PT])
      apply seq_op (V := encErr u6.2) rfl
      · exact fun _ h => O_ext rfl rfl rfl h
      (try simp only [PT])
      apply seq_op (V := .slice Ar30 u6.1.length cr30) rfl
      · exact fun _ h => O_as rfl rfl h
      (try simp only [PT])
      apply seq_op (V := encErr u6.2) rfl
      · exact fun _ h => O_as rfl rfl h
      (try simp only [PT])
      refine list_end ?_
      refine then_norm ?_
      refine wp_seq ?_
      obtain ⟨u7, gx7, hm⟩ := bs hm
      refine wp_region_lit ?_
      apply seq_op (V := .slice A_p0 a0.length c_p0) rfl
      · exact fun _ h => O_mv rfl rfl h
      (try simp only [PT])
      refine seq_call rfl (fun Φ hΦ => by refine O_call1 rfl Tryd.func37 rfl rfl rfl hΦ) (assayerref03_Check_w (fuel := fuel) (a0 := a0) (h_p0 := h_p0) (hm := gx7) (H := H)) ?_
      clear H
      rintro e w1 ⟨rfl, H⟩; refine ⟨_, rfl, ?_⟩
      (try simp only [PT])
      apply seq_op (V := .tuple #[.int .i64 u7.1, .int .i64 u7.2]) rfl
      · exact fun _ h => O_mv rfl rfl h
      (try simp only [PT])
      apply seq_op (V := .int .i64 u7.1) rfl
      · exact fun _ h => O_ext rfl rfl rfl h
      (try simp only [PT])
      apply seq_op (V := .int .i64 u7.2) rfl
      · exact fun _ h => O_ext rfl rfl rfl h
      (try simp only [PT])
      apply seq_op (V := .int .i64 u7.1) rfl
      · exact fun _ h => O_as rfl rfl h
      (try simp only [PT])
      apply seq_op (V := .int .i64 u7.2) rfl
      · exact fun _ h => O_as rfl rfl h
      (try simp only [PT])
      refine list_end ?_
      refine then_norm ?_
      refine wp_seq ?_
      refine wp_seq ?_
      have gn2 : Kin.inI64 ((u5.1.length : Nat) : Int) := osl_i 1 H rfl (by decide : 0 < kT.by_)
      have gn3 : Kin.inI64 ((u6.1.length : Nat) : Int) := osl_i 0 H rfl (by decide : 0 < kT.by_)
      refine wp_region_lit ?_
      apply seq_op (V := encErr u5.2) rfl
      · exact fun _ h => O_mv rfl rfl h
      (try simp only [PT])
      apply seq_op (V := .int .i64 u7.1) rfl
      · exact fun _ h => O_mv rfl rfl h
      (try simp only [PT])
      apply seq_op (V := .int .i64 u7.2) rfl
      · exact fun _ h => O_mv rfl rfl h
      (try simp only [PT])
      refine seq_call rfl (fun Φ hΦ => by refine O_call3 rfl Tryd.func33 rfl rfl rfl rfl rfl hΦ) (assayerplain_Is_w (a0 := u5.2) (a1 := u7.1) (a2 := u7.2) (H := H)) ?_
      clear H
      rintro e w1 ⟨rfl, H⟩; refine ⟨_, rfl, ?_⟩
      (try simp only [PT])
      apply seq_op (V := .bool (!(assayerplain_Is_f u5.2 u7.1 u7.2))) rfl
      · exact fun _ h => O_not rfl rfl h
      (try simp only [PT])
      apply seq_op (V := .bool (!(assayerplain_Is_f u5.2 u7.1 u7.2))) rfl
      · exact fun _ h => O_mv rfl rfl h
      (try simp only [PT])
      refine seq_opg (c := (!(!(assayerplain_Is_f u5.2 u7.1 u7.2)))) (V := encErr u6.2) (by first | exact wanted_f rfl rfl rfl | exact wanted_vf rfl rfl rfl) ?_ ?_
      · intro hc Φ hΦ; refine O_mv rfl rfl ?_; exact hΦ
      (try simp only [PT])
      refine seq_opg (c := (!(!(assayerplain_Is_f u5.2 u7.1 u7.2)))) (V := .int .i64 u7.1) (by first | exact wanted_f rfl rfl rfl | exact wanted_vf rfl rfl rfl) ?_ ?_
      · intro hc Φ hΦ; refine O_mv rfl rfl ?_; exact hΦ
      (try simp only [PT])
      refine seq_opg (c := (!(!(assayerplain_Is_f u5.2 u7.1 u7.2)))) (V := .int .i64 u7.2) (by first | exact wanted_f rfl rfl rfl | exact wanted_vf rfl rfl rfl) ?_ ?_
      · intro hc Φ hΦ; refine O_mv rfl rfl ?_; exact hΦ
      (try simp only [PT])
      refine seq_opgH (c := (!(!(assayerplain_Is_f u5.2 u7.1 u7.2)))) (V := .bool (assayerplain_Is_f u6.2 u7.1 u7.2)) H (by first | exact wanted_f rfl rfl rfl | exact wanted_vf rfl rfl rfl) ?_ ?_
      · intro hc Φ hΦ; (repeat (first | rw [vg_of hc] | rw [vg_of (and_l hc)] | rw [vg_of (and_l (and_l hc))] | rw [vg_of (and_l (and_l (and_l hc)))] | rw [vg_and hc])); refine O_call3 rfl Tryd.func33 rfl rfl rfl rfl rfl ?_; refine (assayerplain_Is_w (a0 := u6.2) (a1 := u7.1) (a2 := u7.2) (H := H)).mono ?_; rintro e w2 ⟨rfl, H⟩; exact ⟨_, rfl, hΦ _ H⟩
      clear H; intro w1 H
      (try simp only [PT])
      refine seq_opg (c := (!(!(assayerplain_Is_f u5.2 u7.1 u7.2)))) (V := .bool (!(assayerplain_Is_f u6.2 u7.1 u7.2))) (by first | exact wanted_f rfl rfl rfl | exact wanted_vf rfl rfl rfl) ?_ ?_
      · intro hc Φ hΦ; (repeat (first | rw [vg_of hc] | rw [vg_of (and_l hc)] | rw [vg_of (and_l (and_l hc))] | rw [vg_of (and_l (and_l (and_l hc)))] | rw [vg_and hc])); refine O_not rfl rfl ?_; exact hΦ
      (try simp only [PT])
      apply seq_op (V := .bool ((!(assayerplain_Is_f u5.2 u7.1 u7.2)) || (!(assayerplain_Is_f u6.2 u7.1 u7.2)))) rfl
      · exact fun _ h => G_or _ _ _ rfl rfl rfl rfl h
      (try simp only [PT])
      apply seq_op (V := .bool ((!(assayerplain_Is_f u5.2 u7.1 u7.2)) || (!(assayerplain_Is_f u6.2 u7.1 u7.2)))) rfl
      · exact fun _ h => O_mv rfl rfl h
      (try simp only [PT])
      refine seq_opg (c := (!((!(assayerplain_Is_f u5.2 u7.1 u7.2)) || (!(assayerplain_Is_f u6.2 u7.1 u7.2))))) (V := .slice Ar20 u5.1.length cr20) (by first | exact wanted_f rfl rfl rfl | exact wanted_vf rfl rfl rfl) ?_ ?_
      · intro hc Φ hΦ; refine O_mv rfl rfl ?_; exact hΦ
      (try simp only [PT])
      refine seq_opg (c := (!((!(assayerplain_Is_f u5.2 u7.1 u7.2)) || (!(assayerplain_Is_f u6.2 u7.1 u7.2))))) (V := .int .i64 (u5.1.length : Int)) (by first | exact wanted_f rfl rfl rfl | exact wanted_vf rfl rfl rfl) ?_ ?_
      · intro hc Φ hΦ; (repeat (first | rw [vg_of hc] | rw [vg_of (and_l hc)] | rw [vg_of (and_l (and_l hc))] | rw [vg_of (and_l (and_l (and_l hc)))] | rw [vg_and hc])); refine O_len rfl Tryd.underlying57 rfl ?_; exact hΦ
      (try simp only [PT])
      refine seq_opg (c := (!((!(assayerplain_Is_f u5.2 u7.1 u7.2)) || (!(assayerplain_Is_f u6.2 u7.1 u7.2))))) (V := .slice Ar30 u6.1.length cr30) (by first | exact wanted_f rfl rfl rfl | exact wanted_vf rfl rfl rfl) ?_ ?_
      · intro hc Φ hΦ; refine O_mv rfl rfl ?_; exact hΦ
      (try simp only [PT])
      refine seq_opg (c := (!((!(assayerplain_Is_f u5.2 u7.1 u7.2)) || (!(assayerplain_Is_f u6.2 u7.1 u7.2))))) (V := .int .i64 (u6.1.length : Int)) (by first | exact wanted_f rfl rfl rfl | exact wanted_vf rfl rfl rfl) ?_ ?_
      · intro hc Φ hΦ; (repeat (first | rw [vg_of hc] | rw [vg_of (and_l hc)] | rw [vg_of (and_l (and_l hc))] | rw [vg_of (and_l (and_l (and_l hc)))] | rw [vg_and hc])); refine O_len rfl Tryd.underlying57 rfl ?_; exact hΦ
      (try simp only [PT])
      refine seq_opg (c := (!((!(assayerplain_Is_f u5.2 u7.1 u7.2)) || (!(assayerplain_Is_f u6.2 u7.1 u7.2))))) (V := .bool ((u5.1.length : Int) != (u6.1.length : Int))) (by first | exact wanted_f rfl rfl rfl | exact wanted_vf rfl rfl rfl) ?_ ?_
      · intro hc Φ hΦ; (repeat (first | rw [vg_of hc] | rw [vg_of (and_l hc)] | rw [vg_of (and_l (and_l hc))] | rw [vg_of (and_l (and_l (and_l hc)))] | rw [vg_and hc])); refine O_bin rfl rfl rfl eqg_int r_neq ?_; exact hΦ
      (try simp only [PT])
      apply seq_op (V := .bool (((!(assayerplain_Is_f u5.2 u7.1 u7.2)) || (!(assayerplain_Is_f u6.2 u7.1 u7.2))) || ((u5.1.length : Int) != (u6.1.length : Int)))) rfl
      · exact fun _ h => G_or _ _ _ rfl rfl rfl rfl h
      (try simp only [PT])
      refine list_end ?_
      refine then_norm ?_
      refine wp_cond_split rfl (fun hc => ?_) (fun hc => ?_)
      · have hc3 := hc
        clear hc
        replace hm := ifT hc3 hm
        refine wp_seq ?_
        refine wp_region_lit ?_
        apply seq_op (V := .bool false) rfl
        · exact fun _ h => O_as rfl rfl h
        (try simp only [PT])
        refine list_end ?_
        refine then_norm ?_
        refine wp_ret ?_
        refine then_ret ?_
        have hm := Option.some.inj hm
        subst hm
        replace H := H.dropAt 1 rfl; simp only [List.eraseIdx_cons_succ, List.eraseIdx_cons_zero] at H
        replace H := H.dropAt 0 rfl; simp only [List.eraseIdx_cons_succ, List.eraseIdx_cons_zero] at H
        replace H := H.forget hS
        exact ret1 rfl (rv_tmp rfl) rfl ⟨rfl, H⟩
      · have hc3 := hc
        clear hc
        replace hm := ifF hc3 hm
        refine wp_skip ?_
        refine then_norm ?_
        refine wp_seq ?_
        refine wp_seq ?_
        have gn4 : Kin.inI64 ((u5.1.length : Nat) : Int) := osl_i 1 H rfl (by decide : 0 < kT.by_)
        refine wp_region_lit ?_
        apply seq_op (V := .slice Ar20 u5.1.length cr20) rfl
        · exact fun _ h => O_mv rfl rfl h
        (try simp only [PT])
        apply seq_op (V := .int .i64 (u5.1.length : Int)) rfl
        · exact fun _ h => O_len rfl Tryd.underlying57 rfl h
        (try simp only [PT])
        apply seq_op (V := .int .i64 0) rfl
        · exact fun _ h => O_mv rfl rfl h
        (try simp only [PT])
        refine list_end ?_
        refine then_norm ?_
        refine wp_block ?_
        obtain ⟨R15, hq15, hm⟩ := bs hm
        have hn15 := int_le gn4
        refine wp_loopF [none, none, none, none, none, none, none, none, none, none, none, none, none, none, some 14, none, none, none, none, none, none, none, none, none, none, none, none, none, none, none, none, none, none, none, none, none, none, none, none, none, none, none, none, none, none, none, none, none, none, none, none, none, none, none, none, none, none, none, none, none, none, none, none, none, none, none, none, none, none, none, none, none, none, none, none, none, none, none, none, none, none, none, some 82, some 83, some 84, some 85, some 86, some 87, some 88, some 89, some 90, some 91, some 92, some 93, some 94, none, none, none] rfl (by simp) (fun f w => ∃ (k15 : Nat) (r15 : Nat) (y15_p0 : List Txn), k15 + r15 = ((u5.1.length : Int)).toNat ∧ f 82 = .int .i64 (k15 : Int) ∧ assayerlaw03_PairApart_l15 u5 k15 r15 y15_p0 = some R15 ∧ Holds E s4 ((kT.sh s4).Osl (.slice Ar30 u6.1.length cr30) y15_p0 :: (kT.sh s4).Osl (.slice Ar20 u5.1.length cr20) u5.1 :: L) w) (fun f w => ((u5.1.length : Int)).toNat - (intOf (f 82)).toNat) ?_ ?_
        · exact ⟨0, _, u6.1, Nat.zero_add _, rfl, hq15, H⟩
        · clear H
          intro f w hI
          obtain ⟨k15, r15, y15_p0, hd15, hf82, hq15', H⟩ := hI
          clear hq15; have hq15 := hq15'; clear hq15'
          simp only [ovm, mixM]
          simp only [hf82]; clear hf82
          refine wp_seq ?_
          refine wp_region_lit ?_
          apply seq_op (V := .bool (decide ((k15 : Int) < (u5.1.length : Int)))) rfl
          · exact fun _ h => O_bin rfl rfl rfl eqg_int r_lss h
          (try simp only [PT])
          refine list_end ?_
          refine then_norm ?_
          refine wp_seq ?_
          refine wp_cond_split rfl (fun hc => ?_) (fun hc => ?_)
          · have hc4 := hc
            clear hc
            obtain ⟨r15', rfl, hl15, hd15''⟩ := irng_t hd15 hc4
            rw [assayerlaw03_PairApart_l15] at hq15
            refine wp_skip ?_
            refine then_norm ?_
            refine wp_seq ?_
            refine wp_block ?_
            refine wp_seq ?_
            refine wp_region_lit ?_
            apply seq_op (V := .int .i64 (k15 : Int)) rfl
            · exact fun _ h => O_mv rfl rfl h
            (try simp only [PT])
            apply seq_op (V := .int .i64 (k15 : Int)) rfl
            · exact fun _ h => O_as rfl rfl h
            (try simp only [PT])
            refine list_end ?_
            refine then_norm ?_
            obtain ⟨u8, gx8, hq15⟩ := bs hq15
            obtain ⟨kk2, gk2, gl3, gd3⟩ := rdI_some gx8
            obtain ⟨bokk2, rfl⟩ := own_addr 1 H rfl (fun e => by rw [e] at gl3; exact absurd gl3 (Nat.not_lt_zero _))
            obtain ⟨cse2, hKe2⟩ := own_has 1 H rfl gd3; obtain ⟨_, _, -, h0e2, h1e2, h2e2, h3e2, -⟩ := kT_op hKe2
            obtain ⟨u9, gx9, hq15⟩ := bs hq15
            obtain ⟨kk3, gk3, gl4, gd4⟩ := rdI_some gx9
            obtain ⟨bokk3, rfl⟩ := own_addr 0 H rfl (fun e => by rw [e] at gl4; exact absurd gl4 (Nat.not_lt_zero _))
            have gngl4 := Nat.lt_of_lt_of_eq gl4 (osl_len 0 H rfl).symm
            obtain ⟨cse3, hKe3⟩ := own_has 0 H rfl gd4; obtain ⟨_, _, -, h0e3, h1e3, h2e3, h3e3, -⟩ := kT_op hKe3
            refine wp_region_lit ?_
            apply seq_op (V := .slice (some ⟨bokk3, 0, none⟩) u6.1.length cr30) rfl
            · exact fun _ h => O_mv rfl rfl h
            (try simp only [PT])
            apply seq_op (V := .int .i64 (k15 : Int)) rfl
            · exact fun _ h => O_mv rfl rfl h
            (try simp only [PT])
            apply seq_op (V := .slice (some ⟨bokk2, 0, none⟩) u5.1.length cr20) rfl
            · exact fun _ h => O_mv rfl rfl h
            (try simp only [PT])
            apply seq_op (V := .int .i64 (k15 : Int)) rfl
            · exact fun _ h => O_mv rfl rfl h
            (try simp only [PT])
            apply seq_op (V := .pointer (some ⟨bokk2, kk2 * 5, none⟩)) rfl
            · exact fun _ h => O_ixn rfl Tryd.underlying57 (Tryd.sizeOf75 _) rfl rfl gk2 gl3 h
            (try simp only [PT])
            apply seq_op (V := .pointer (some ⟨bokk2, kk2 * 5, none⟩)) rfl
            · exact fun _ h => O_fld rfl Tryd.underlying75 rfl (Tryd.sizeOf3 _) rfl h
            (try simp only [PT])
            apply seq_op (V := .int .i64 u8.proc) rfl
            · intro Φ hΦ; refine G_ownget (d := kT) (f := 0) 1 _ _ rfl (Tryd.isAgg3 _) rfl rfl H rfl gd3 (fun cs h => by obtain ⟨_, _, rfl, _⟩ := kT_op h; rfl) ?_; exact hΦ
            (try simp only [PT])
            apply seq_op (V := .pointer (some ⟨bokk3, kk3 * 5, none⟩)) rfl
            · exact fun _ h => O_ixn rfl Tryd.underlying57 (Tryd.sizeOf75 _) rfl rfl gk3 gngl4 h
            (try simp only [PT])
            apply seq_op (V := .pointer (some ⟨bokk3, kk3 * 5, none⟩)) rfl
            · exact fun _ h => O_fld rfl Tryd.underlying75 rfl (Tryd.sizeOf3 _) rfl h
            (try simp only [PT])
            refine OpG.list rfl ?_; refine G_ownsetF (d := kT) 0 _ _ _ rfl (Tryd.sizeOf3 _) (f := 0) (v := .int .i64 u8.proc) (x' := (⟨u8.proc, u9.state, u9.from_, u9.to, u9.ops⟩ : Txn)) rfl rfl (by decide) rfl H rfl gk3 gd4 rfl (fun cs h => by obtain ⟨_, _, rfl, -, h1', h2', h3', h4'⟩ := kT_op h; exact kT_mk' (s := s4) (x := (⟨u8.proc, u9.state, u9.from_, u9.to, u9.ops⟩ : Txn)) h0e2 h1' h2' h3' h4') ?_; clear H; intro w1 H; simp only [List.set_cons_succ, List.set_cons_zero] at H
            (try simp only [PT])
            obtain ⟨gd5, gl5⟩ := setI_drop (x := (⟨u8.proc, u9.state, u9.from_, u9.to, u9.ops⟩ : Txn)) gk3 gl4
            refine list_end ?_
            refine block_norm ?_
            refine then_norm ?_
            refine wp_region_lit ?_
            apply seq_op (V := .int .i64 (IntKind.i64.wrap ((k15 : Int) + 1))) rfl
            · exact fun _ h => O_bin rfl rfl rfl eqg_int r_add h
            (try simp only [PT])
            apply seq_op (V := .int .i64 (IntKind.i64.wrap ((k15 : Int) + 1))) rfl
            · exact fun _ h => O_mv rfl rfl h
            (try simp only [PT])
            refine list_end ?_
            refine then_norm ?_
            refine ⟨⟨⟨rfl, rfl, rfl, rfl, rfl, rfl, rfl, rfl, rfl, rfl, rfl, rfl, rfl, rfl, rfl, rfl, rfl, rfl, rfl, rfl, rfl, rfl, rfl, rfl, rfl, rfl, rfl, rfl, rfl, rfl, rfl, rfl, rfl, rfl, rfl, rfl, rfl, rfl, rfl, rfl, rfl, rfl, rfl, rfl, rfl, rfl, rfl, rfl, rfl, rfl, rfl, rfl, rfl, rfl, rfl, rfl, rfl, rfl, rfl, rfl, rfl, rfl, rfl, rfl, rfl, rfl, rfl, rfl, rfl, rfl, rfl, rfl, rfl, rfl, rfl, rfl, rfl, rfl, rfl, rfl, rfl, rfl, rfl, rfl, rfl⟩, rfl⟩, ⟨k15 + 1, r15', (setI y15_p0 (k15 : Int) (⟨u8.proc, u9.state, u9.from_, u9.to, u9.ops⟩ : Txn)), hd15'', wrap_succ hl15 hn15, hq15, H⟩, ?_⟩
            exact meas_succ hl15 hn15
          · have hc4 := hc
            clear hc
            obtain rfl := irng_f hd15 hc4
            rw [assayerlaw03_PairApart_l15] at hq15
            refine wp_exit ?_
            refine then_exit ?_
            refine then_exit ?_
            have hq15 := Option.some.inj hq15
            subst hq15
            (try dsimp only at hm)
            refine block_exit ?_
            refine then_norm ?_
            refine wp_seq ?_
            have hq := osl_len 0 H rfl; (try rw [hq]); rw [hq] at H; clear hq
            obtain ⟨u10, gx10, hm⟩ := bs hm
            refine wp_region_lit ?_
            apply seq_op (V := .slice Ar20 u5.1.length cr20) rfl
            · exact fun _ h => O_mv rfl rfl h
            (try simp only [PT])
            apply seq_op (V := .slice Ar30 y15_p0.length cr30) rfl
            · exact fun _ h => O_mv rfl rfl h
            (try simp only [PT])
            refine seq_opH (V := .bool u10) H rfl ?_ ?_
            · intro Φ hΦ; refine O_call2 rfl Tryd.func34 rfl rfl rfl rfl ?_; obtain ⟨sl0, hsl0, hb0, H, bk0, bg0⟩ := lendOsl 1 rfl (Sub.refl _) H; simp only [List.eraseIdx_cons_succ, List.eraseIdx_cons_zero, List.cons_append] at H bk0; obtain ⟨sl1, hsl1, hb1, H, bk1, bg1⟩ := lendOsl 0 rfl hsl0 H; simp only [List.eraseIdx_cons_succ, List.eraseIdx_cons_zero, List.cons_append] at H bk1; refine (assayerplain_SameTxns_w (a0 := u5.1) (h_p0 := (hb0.mono hsl1)) (a1 := y15_p0) (h_p1 := hb1) (hm := gx10) (H := H)).mono ?_; rintro e w2 ⟨rfl, H⟩; have H := bk1 H; have H := bk0 H; exact ⟨_, rfl, hΦ _ H⟩
            clear H; intro w1 H
            (try simp only [PT])
            apply seq_op (V := .bool u10) rfl
            · exact fun _ h => O_as rfl rfl h
            (try simp only [PT])
            refine list_end ?_
            refine then_norm ?_
            refine wp_ret ?_
            have hm := Option.some.inj hm
            subst hm
            replace H := H.dropAt 1 rfl; simp only [List.eraseIdx_cons_succ, List.eraseIdx_cons_zero] at H
            replace H := H.dropAt 0 rfl; simp only [List.eraseIdx_cons_succ, List.eraseIdx_cons_zero] at H
            replace H := H.forget hS
            exact ret1 rfl (rv_tmp rfl) rfl ⟨rfl, H⟩
end Go.Proofs.YtemdmpgekegfhaaDoor
