/- Walks, printed by fx.py: part 1. -/
import Derived.Test.YtemdmpgekegfhaaDoorKinds
import Derived.Test.YtemdmpgekegfhaaDoorDrawP
import Derived.Test.YtemdmpgekegfhaaDoorOwnT
import Derived.Test.YtemdmpgekegfhaaDoorErr
import Derived.Test.YtemdmpgekegfhaaDoorAsW
import Derived.Test.YtemdmpgekegfhaaDoorRet
import Derived.Test.YtemdmpgekegfhaaDoorSmallS
namespace Go.Proofs.YtemdmpgekegfhaaDoor
open Go.RowKit
set_option linter.all false
set_option maxRecDepth 10000
theorem eqnil_kI (w : World) (a : Option Addr) (n c : Nat) : (binOp .eql 27 (.slice a n c) (.slice none 0 0)).run Tryd.prog w = .ok (.bool a.isNone) w := Lib.run_eql_slice_nil w _ _ a n c 0 0 Tryd.underlying27
attribute [local go_sem] eqnil_kI
set_option maxHeartbeats 400000 in
theorem clone_kI_w {E : World} {s : SH} {L : List HP} {w : World} {a0 : List Int} {A_p0 : Option Addr} {c_p0 : Nat} (h_p0 : kI.Sl s (.slice A_p0 a0.length c_p0) a0) (H : Holds E s L w) :
    Calls Tryd.prog 55 #[.slice A_p0 a0.length c_p0] w fun e w' => ∃ A c n, e = .returned (.slice A n c) ∧ Holds E s ((kI.sh s).Osl (.slice A n c) a0 :: L) w' := by
  have hv0 := h_p0
  obtain ⟨A, cap, e, h1, h2, h3⟩ := h_p0
  cases e
  cases A_p0 with
  | none =>
    have : a0 = [] := Classical.byContradiction fun hx => by obtain ⟨b, off, cur, e, fr, k, _⟩ := h3 hx; cases k
    subst this
    go_enter Tryd.func55, Tryd.ntmps55
    go_wp2
    go_ret
    exact ⟨none, 0, 0, rfl, Kin.Osl.nil H⟩
  | some p =>
    go_enter Tryd.func55, Tryd.ntmps55
    go_wp2_with (first | ((with_reducible refine OpG.list rfl ?_); refine G_slice0 (d := kI.sh s) rfl Tryd.underlying27 Tryd.sizeOf3 H ?_; intro v1 w1 H1) | ((with_reducible refine OpG.list rfl ?_); refine G_appendS kI_at _ _ rfl H1 hv0 rfl rfl (by simpa using h2) ?_; intro v2 w2 H2; simp only [List.nil_append] at H2))
    obtain ⟨A2, c2, rfl, -⟩ := H2.len
    go_ret
    exact ⟨A2, c2, _, rfl, H2⟩
def assayerplain_Ops_l3  : Nat → List Op' → (List Op') → Option (((List Op')))
  | k3, [] , y3_3 => some y3_3
  | k3, x3 :: r3, y3_3 => (app 64 y3_3 x3).bind fun u1 => assayerplain_Ops_l3 (k3 + 1) r3 u1

def assayerplain_Ops_f (a0 : List Op') : Option ((List Op')) := (assayerplain_Ops_l3 0 a0 []).bind fun z3_3 => some z3_3

set_option maxHeartbeats 4000000 in
theorem assayerplain_Ops_w {E : World} {s : SH} {L : List HP} {w : World} {a0 : List Op'} {A_p0 : Option Addr} {c_p0 : Nat} (h_p0 : kOp.Sl s (.slice A_p0 a0.length c_p0) a0) {R : (List Op')} (hm : assayerplain_Ops_f a0 = some R) (H : Holds E s (L) w) :
    Calls Tryd.prog 68 #[.slice A_p0 a0.length c_p0] w fun e w' => ∃ A0 c0 n0 s', e = .returned (.slice A0 n0 c0) ∧ Sub s s' ∧ Holds E s' ((kOp.sh s').Osl (.slice A0 n0 c0) R :: L) w' := by
  unfold assayerplain_Ops_f at hm
  go_enter Tryd.func68, Tryd.ntmps68
  refine wp_seq ?_
  refine wp_region_lit ?_
  apply seq_op (V := .slice none 0 0) rfl
  · exact fun _ h => O_as rfl rfl h
  (try simp only [PT])
  refine list_end ?_
  refine then_norm ?_
  refine wp_seq ?_
  refine wp_region_lit ?_
  apply seq_op (V := .slice none 0 0) rfl
  · exact fun _ h => O_as rfl rfl h
  (try simp only [PT])
  refine list_end ?_
  refine then_norm ?_
  refine wp_seq ?_
  refine wp_seq ?_
  refine wp_region_lit ?_
  apply seq_op (V := .slice A_p0 a0.length c_p0) rfl
  · exact fun _ h => O_mv rfl rfl h
  (try simp only [PT])
  apply seq_op (V := .int .i64 (a0.length : Int)) rfl
  · exact fun _ h => O_len rfl Tryd.underlying71 rfl h
  (try simp only [PT])
  apply seq_op (V := .int .i64 0) rfl
  · exact fun _ h => O_mv rfl rfl h
  (try simp only [PT])
  refine list_end ?_
  refine then_norm ?_
  refine wp_block ?_
  replace H := Kin.Osl.nil (d := kOp.sh s) H
  obtain ⟨R3, hq3, hm⟩ := bs hm
  have hn3 := Nat.le_trans (len_le (d := kOp) h_p0 (by decide)) (by decide : (140737488355328 : Nat) ≤ 9223372036854775807)
  refine wp_loopF [none, none, none, some 3, none, some 5, none, none, some 8, some 9, some 10, some 11, some 12, some 13, some 14, some 15, some 16, some 17, some 18, some 19, some 20, none] rfl (by simp) (fun f w => ∃ (k3 : Nat) (r3 : List Op') (sL3 : SH) (y3_3 : List Op') (A_y3_3 : Option Addr) (c_y3_3 : Nat), Sub s sL3 ∧ a0.drop k3 = r3 ∧ f 8 = .int .i64 (k3 : Int) ∧ f 3 = .slice A_y3_3 y3_3.length c_y3_3 ∧ assayerplain_Ops_l3 k3 r3 y3_3 = some R3 ∧ Holds E sL3 ((kOp.sh sL3).Osl (.slice A_y3_3 y3_3.length c_y3_3) y3_3 :: L) w) (fun f w => a0.length - (intOf (f 8)).toNat) ?_ ?_
  · exact ⟨0, a0, s, [], none, 0, Sub.refl _, rfl, rfl, rfl, hq3, H⟩
  · clear H
    intro f w hI
    obtain ⟨k3, r3, sL3, y3_3, A_y3_3, c_y3_3, hs3, hd3, hf8, hf3, hq3', H⟩ := hI
    clear hq3; have hq3 := hq3'; clear hq3'
    simp only [ovm, mixM]
    simp only [hf8, hf3]; clear hf8 hf3
    replace h_p0 := h_p0.mono hs3
    have hS := hs3
    refine wp_seq ?_
    refine wp_region_lit ?_
    apply seq_op (V := .bool (decide ((k3 : Int) < (a0.length : Int)))) rfl
    · exact fun _ h => O_bin rfl rfl rfl eqg_int r_lss h
    (try simp only [PT])
    refine list_end ?_
    refine then_norm ?_
    refine wp_seq ?_
    refine wp_cond_split rfl (fun hc => ?_) (fun hc => ?_)
    · have hc1 := hc
      clear hc
      obtain ⟨x3, r3', rfl, hd3', hd3'', hl3⟩ := rng_t hd3 hc1
      rw [assayerplain_Ops_l3] at hq3
      refine wp_skip ?_
      refine then_norm ?_
      refine wp_seq ?_
      refine wp_block ?_
      refine wp_seq ?_
      obtain ⟨be1, oe1, A3e1, c3e1, rfl, hCe1, h0e1, h1e1, h2e1, h3e1⟩ := kOp_el h_p0 hd3'
      refine wp_region_lit ?_
      apply seq_op (V := .pointer (some ⟨be1, oe1 + k3 * 6, none⟩)) rfl
      · exact fun _ h => O_ix rfl Tryd.underlying71 (Tryd.sizeOf108 _) rfl rfl rfl hl3 h
      (try simp only [PT])
      apply seq_op (V := .agg #[.int .i64 x3.kind, .string x3.key, .int .i64 x3.value, .slice A3e1 x3.list.length c3e1, .bool x3.has, .bool x3.isNil]) rfl
      · exact fun _ h => G_sN _ _ rfl (Tryd.isAgg108 _) rfl H hCe1 (Tryd.sizeOf108 _) h
      (try simp only [PT])
      refine OpG.list rfl ?_; refine G_alloc 108 rfl (Tryd.zeroValue108 _) H ?_; clear H; intro b5 w1 H; (try simp only [Value.cells] at H)
      (try simp only [PT])
      refine OpG.list rfl ?_; refine G_setNi 0 (c := [.int .i64 x3.kind, .string x3.key, .int .i64 x3.value, .slice A3e1 x3.list.length c3e1, .bool x3.has, .bool x3.isNil]) _ _ _ rfl (Tryd.sizeOf108 _) rfl rfl (by simp [Value.oneCell']) H rfl rfl ?_; clear H; intro w1 H; simp only [List.set_cons_succ, List.set_cons_zero] at H
      (try simp only [PT])
      refine list_end ?_
      refine then_norm ?_
      refine wp_seq ?_
      refine wp_region_lit ?_
      apply seq_op (V := .pointer (some ⟨b5, 3, none⟩)) rfl
      · exact fun _ h => O_fld rfl Tryd.underlying108 rfl (Tryd.sizeOf27 _) rfl h
      (try simp only [PT])
      apply seq_op (V := .slice A3e1 x3.list.length c3e1) rfl
      · exact fun _ h => L_1 0 _ _ rfl (Tryd.isAgg27 _) rfl H rfl rfl h
      (try simp only [PT])
      refine seq_call rfl (fun Φ hΦ => by refine O_call1 rfl Tryd.func55 rfl rfl rfl hΦ) (clone_kI_w (a0 := x3.list) (h_p0 := h3e1) (H := H)) ?_
      clear H
      rintro e w1 ⟨Ar10, cr10, nr10, rfl, H⟩; refine ⟨_, rfl, ?_⟩
      obtain rfl := osl_len 0 H rfl
      skip
      obtain ⟨s1, hs', H, hf1⟩ := Kin.Osl.fr H; replace hf1 := hf1.unsh hs'
      replace h_p0 := h_p0.mono hs'
      replace hCe1 := hCe1.mono hs'
      replace h3e1 := h3e1.mono hs'
      replace H := Holds.mapAt (A := (kOp.sh sL3).Osl (.slice A_y3_3 y3_3.length c_y3_3) y3_3) (B := (kOp.sh s1).Osl (.slice A_y3_3 y3_3.length c_y3_3) y3_3) 1 rfl (fun h k => Kin.Osl.sh_mono (d := kOp) hs' h k) H; simp only [List.set_cons_succ, List.set_cons_zero] at H
      replace hS := hS.trans hs'
      replace hs3 := hs3.trans hs'
      (try simp only [PT])
      apply seq_op (V := .pointer (some ⟨b5, 3, none⟩)) rfl
      · exact fun _ h => O_fld rfl Tryd.underlying108 rfl (Tryd.sizeOf27 _) rfl h
      (try simp only [PT])
      refine OpG.list rfl ?_; refine S_1 0 _ _ _ rfl (Tryd.sizeOf27 _) rfl (v := .slice Ar10 x3.list.length cr10) rfl H rfl ?_ ?_ ?_; (focus (first | rfl | (simp [Value.oneCell']; done))); (focus (simp; done)); clear H; intro w1 H; simp only [List.set_cons_succ, List.set_cons_zero] at H
      (try simp only [PT])
      refine list_end ?_
      refine then_norm ?_
      obtain ⟨u1, gx1, hq3⟩ := bs hq3
      obtain ⟨hroomgx1, egx1⟩ := app_some gx1
      refine wp_region_lit ?_
      apply seq_op (V := .slice A_y3_3 y3_3.length c_y3_3) rfl
      · exact fun _ h => O_mv rfl rfl h
      (try simp only [PT])
      apply seq_op (V := .agg #[.int .i64 x3.kind, .string x3.key, .int .i64 x3.value, .slice Ar10 x3.list.length cr10, .bool x3.has, .bool x3.isNil]) rfl
      · exact fun _ h => G_pNi 0 _ _ rfl (Tryd.isAgg108 _) rfl H rfl (Tryd.sizeOf108 _) h
      (try simp only [PT])
      refine OpG.list rfl ?_; refine SL_1 rfl (v := .agg #[.int .i64 x3.kind, .string x3.key, .int .i64 x3.value, .slice Ar10 x3.list.length cr10, .bool x3.has, .bool x3.isNil]) rfl Tryd.underlying71 Tryd.sizeOf108 Tryd.zeroValue108 rfl rfl (by decide) (by decide) H ?_; clear H; intro b18 w1 H; (try simp only [Value.cells] at H)
      (try simp only [PT])
      refine OpG.list rfl ?_; refine AP_1 (p := x3) 1 kOp_at _ _ rfl (kOp_mk' (s := s1) (x := x3) h0e1 h1e1 h2e1 hf1) H rfl rfl rfl hroomgx1 ?_; clear H; intro v1 w1 H; (try simp only [List.set_cons_succ, List.set_cons_zero] at H)
      rw [← egx1] at H
      obtain ⟨Av1, cv1, rfl, -⟩ := (H.front 1 rfl).len
      (try simp only [PT])
      apply seq_op (V := .slice Av1 u1.length cv1) rfl
      · exact fun _ h => O_as rfl rfl h
      (try simp only [PT])
      refine list_end ?_
      refine block_norm ?_
      refine then_norm ?_
      refine wp_region_lit ?_
      apply seq_op (V := .int .i64 (IntKind.i64.wrap ((k3 : Int) + 1))) rfl
      · exact fun _ h => O_bin rfl rfl rfl eqg_int r_add h
      (try simp only [PT])
      apply seq_op (V := .int .i64 (IntKind.i64.wrap ((k3 : Int) + 1))) rfl
      · exact fun _ h => O_mv rfl rfl h
      (try simp only [PT])
      refine list_end ?_
      refine then_norm ?_
      replace H := H.drop
      refine ⟨⟨⟨rfl, rfl, rfl, rfl, rfl, rfl, rfl, rfl⟩, rfl⟩, ⟨k3 + 1, _, s1, u1, Av1, cv1, hs3, hd3'', wrap_succ hl3 hn3, rfl, hq3, H⟩, ?_⟩
      exact meas_succ hl3 hn3
    · have hc1 := hc
      clear hc
      obtain rfl := rng_f hd3 hc1
      rw [assayerplain_Ops_l3] at hq3
      refine wp_exit ?_
      refine then_exit ?_
      refine then_exit ?_
      have hq3 := Option.some.inj hq3
      subst hq3
      (try dsimp only at hm)
      refine block_exit ?_
      refine then_norm ?_
      refine wp_seq ?_
      refine wp_region_lit ?_
      apply seq_op (V := .slice A_y3_3 y3_3.length c_y3_3) rfl
      · exact fun _ h => O_mv rfl rfl h
      (try simp only [PT])
      apply seq_op (V := .slice A_y3_3 y3_3.length c_y3_3) rfl
      · exact fun _ h => O_as rfl rfl h
      (try simp only [PT])
      refine list_end ?_
      refine then_norm ?_
      refine wp_ret ?_
      have hm := Option.some.inj hm
      subst hm
      exact ret1 rfl (rv_tmp rfl) rfl ⟨A_y3_3, c_y3_3, y3_3.length, sL3, rfl, hS, H⟩
def assayerplain_Events_l3  : Nat → List Ev → (List Ev) → Option (((List Ev)))
  | k3, [] , y3_3 => some y3_3
  | k3, x3 :: r3, y3_3 => (assayerplain_Ops_f x3.ops).bind fun u1 => (app 40 y3_3 (⟨x3.kind, x3.proc, u1⟩ : Ev)).bind fun u2 => assayerplain_Events_l3 (k3 + 1) r3 u2

def assayerplain_Events_f (a0 : List Ev) : Option ((List Ev)) := (assayerplain_Events_l3 0 a0 []).bind fun z3_3 => some z3_3

set_option maxHeartbeats 4000000 in
theorem assayerplain_Events_w {E : World} {s : SH} {L : List HP} {w : World} {a0 : List Ev} {A_p0 : Option Addr} {c_p0 : Nat} (h_p0 : kEv.Sl s (.slice A_p0 a0.length c_p0) a0) {R : (List Ev)} (hm : assayerplain_Events_f a0 = some R) (H : Holds E s (L) w) :
    Calls Tryd.prog 30 #[.slice A_p0 a0.length c_p0] w fun e w' => ∃ A0 c0 n0 s', e = .returned (.slice A0 n0 c0) ∧ Sub s s' ∧ Holds E s' ((kEv.sh s').Osl (.slice A0 n0 c0) R :: L) w' := by
  unfold assayerplain_Events_f at hm
  go_enter Tryd.func30, Tryd.ntmps30
  refine wp_seq ?_
  refine wp_region_lit ?_
  apply seq_op (V := .slice none 0 0) rfl
  · exact fun _ h => O_as rfl rfl h
  (try simp only [PT])
  refine list_end ?_
  refine then_norm ?_
  refine wp_seq ?_
  refine wp_region_lit ?_
  apply seq_op (V := .slice none 0 0) rfl
  · exact fun _ h => O_as rfl rfl h
  (try simp only [PT])
  refine list_end ?_
  refine then_norm ?_
  refine wp_seq ?_
  refine wp_seq ?_
  refine wp_region_lit ?_
  apply seq_op (V := .slice A_p0 a0.length c_p0) rfl
  · exact fun _ h => O_mv rfl rfl h
  (try simp only [PT])
  apply seq_op (V := .int .i64 (a0.length : Int)) rfl
  · exact fun _ h => O_len rfl Tryd.underlying55 rfl h
  (try simp only [PT])
  apply seq_op (V := .int .i64 0) rfl
  · exact fun _ h => O_mv rfl rfl h
  (try simp only [PT])
  refine list_end ?_
  refine then_norm ?_
  refine wp_block ?_
  replace H := Kin.Osl.nil (d := kEv.sh s) H
  obtain ⟨R3, hq3, hm⟩ := bs hm
  have hn3 := Nat.le_trans (len_le (d := kEv) h_p0 (by decide)) (by decide : (140737488355328 : Nat) ≤ 9223372036854775807)
  refine wp_loopF [none, none, none, some 3, none, some 5, none, none, some 8, some 9, some 10, some 11, some 12, some 13, some 14, some 15, some 16, some 17, some 18, some 19, some 20, some 21, some 22, some 23, none] rfl (by simp) (fun f w => ∃ (k3 : Nat) (r3 : List Ev) (sL3 : SH) (y3_3 : List Ev) (A_y3_3 : Option Addr) (c_y3_3 : Nat), Sub s sL3 ∧ a0.drop k3 = r3 ∧ f 8 = .int .i64 (k3 : Int) ∧ f 3 = .slice A_y3_3 y3_3.length c_y3_3 ∧ assayerplain_Events_l3 k3 r3 y3_3 = some R3 ∧ Holds E sL3 ((kEv.sh sL3).Osl (.slice A_y3_3 y3_3.length c_y3_3) y3_3 :: L) w) (fun f w => a0.length - (intOf (f 8)).toNat) ?_ ?_
  · exact ⟨0, a0, s, [], none, 0, Sub.refl _, rfl, rfl, rfl, hq3, H⟩
  · clear H
    intro f w hI
    obtain ⟨k3, r3, sL3, y3_3, A_y3_3, c_y3_3, hs3, hd3, hf8, hf3, hq3', H⟩ := hI
    clear hq3; have hq3 := hq3'; clear hq3'
    simp only [ovm, mixM]
    simp only [hf8, hf3]; clear hf8 hf3
    replace h_p0 := h_p0.mono hs3
    have hS := hs3
    refine wp_seq ?_
    refine wp_region_lit ?_
    apply seq_op (V := .bool (decide ((k3 : Int) < (a0.length : Int)))) rfl
    · exact fun _ h => O_bin rfl rfl rfl eqg_int r_lss h
    (try simp only [PT])
    refine list_end ?_
    refine then_norm ?_
    refine wp_seq ?_
    refine wp_cond_split rfl (fun hc => ?_) (fun hc => ?_)
    · have hc1 := hc
      clear hc
      obtain ⟨x3, r3', rfl, hd3', hd3'', hl3⟩ := rng_t hd3 hc1
      rw [assayerplain_Events_l3] at hq3
      refine wp_skip ?_
      refine then_norm ?_
      refine wp_seq ?_
      refine wp_block ?_
      refine wp_seq ?_
      obtain ⟨be1, oe1, A2e1, c2e1, rfl, hCe1, h0e1, h1e1, h2e1⟩ := kEv_el h_p0 hd3'
      refine wp_region_lit ?_
      apply seq_op (V := .pointer (some ⟨be1, oe1 + k3 * 3, none⟩)) rfl
      · exact fun _ h => O_ix rfl Tryd.underlying55 (Tryd.sizeOf73 _) rfl rfl rfl hl3 h
      (try simp only [PT])
      apply seq_op (V := .agg #[.int .i64 x3.kind, .int .i64 x3.proc, .slice A2e1 x3.ops.length c2e1]) rfl
      · exact fun _ h => G_sN _ _ rfl (Tryd.isAgg73 _) rfl H hCe1 (Tryd.sizeOf73 _) h
      (try simp only [PT])
      refine OpG.list rfl ?_; refine G_alloc 73 rfl (Tryd.zeroValue73 _) H ?_; clear H; intro b5 w1 H; (try simp only [Value.cells] at H)
      (try simp only [PT])
      refine OpG.list rfl ?_; refine G_setNi 0 (c := [.int .i64 x3.kind, .int .i64 x3.proc, .slice A2e1 x3.ops.length c2e1]) _ _ _ rfl (Tryd.sizeOf73 _) rfl rfl (by simp [Value.oneCell']) H rfl rfl ?_; clear H; intro w1 H; simp only [List.set_cons_succ, List.set_cons_zero] at H
      (try simp only [PT])
      refine list_end ?_
      refine then_norm ?_
      obtain ⟨u1, gx1, hq3⟩ := bs hq3
      obtain ⟨u2, gx2, hq3⟩ := bs hq3
      obtain ⟨hroomgx2, egx2⟩ := app_some gx2
      refine wp_draw_C (k := 11) (sz := 25) [7, 8, 9, 10] [.slice A_y3_3 y3_3.length c_y3_3, .pointer (some ⟨b5, 0, none⟩), .int .i64 x3.kind, .pointer (some ⟨b5, 1, none⟩), .int .i64 x3.proc, .pointer (some ⟨b5, 2, none⟩), .slice A2e1 x3.ops.length c2e1, undef, undef, undef, undef] [pt b5 (.cells #[.int .i64 x3.kind, .int .i64 x3.proc, .slice A2e1 x3.ops.length c2e1] 73 (0, 0))] [fun w x => ∃ (sc : SH) (Ar10 : Option Addr) (cr10 : Nat), Sub sL3 sc ∧ kOp.Sl sc (.slice Ar10 u1.length cr10) u1 ∧ x 7 = .slice Ar10 u1.length cr10 ∧ Holds E sc (pt b5 (.cells #[.int .i64 x3.kind, .int .i64 x3.proc, .slice A2e1 x3.ops.length c2e1] 73 (0, 0)) :: (kEv.sh sc).Osl (.slice A_y3_3 y3_3.length c_y3_3) y3_3 :: L) w, fun w x => ∃ (sc : SH) (Ar10 : Option Addr) (cr10 : Nat), Sub sL3 sc ∧ kOp.Sl sc (.slice Ar10 u1.length cr10) u1 ∧ x 7 = .slice Ar10 u1.length cr10 ∧ x 8 = .agg #[.int .i64 x3.kind, .int .i64 x3.proc, .slice Ar10 u1.length cr10] ∧ Holds E sc (pt b5 (.cells #[.int .i64 x3.kind, .int .i64 x3.proc, .slice A2e1 x3.ops.length c2e1] 73 (0, 0)) :: (kEv.sh sc).Osl (.slice A_y3_3 y3_3.length c_y3_3) y3_3 :: L) w, fun w x => ∃ (sc : SH) (Ar10 : Option Addr) (cr10 : Nat) (b21 : Nat), Sub sL3 sc ∧ kOp.Sl sc (.slice Ar10 u1.length cr10) u1 ∧ x 7 = .slice Ar10 u1.length cr10 ∧ x 8 = .agg #[.int .i64 x3.kind, .int .i64 x3.proc, .slice Ar10 u1.length cr10] ∧ x 9 = .slice (some ⟨b21, 0, none⟩) 1 1 ∧ Holds E sc (pt b21 (.cells #[.int .i64 x3.kind, .int .i64 x3.proc, .slice Ar10 u1.length cr10] 73 (0, 0)) :: pt b5 (.cells #[.int .i64 x3.kind, .int .i64 x3.proc, .slice A2e1 x3.ops.length c2e1] 73 (0, 0)) :: (kEv.sh sc).Osl (.slice A_y3_3 y3_3.length c_y3_3) y3_3 :: L) w, fun w x => ∃ (sc : SH) (Ar10 : Option Addr) (cr10 : Nat) (b21 : Nat) (Av1 : Option Addr) (cv1 : Nat), Sub sL3 sc ∧ kOp.Sl sc (.slice Ar10 u1.length cr10) u1 ∧ x 7 = .slice Ar10 u1.length cr10 ∧ x 8 = .agg #[.int .i64 x3.kind, .int .i64 x3.proc, .slice Ar10 u1.length cr10] ∧ x 9 = .slice (some ⟨b21, 0, none⟩) 1 1 ∧ x 10 = .slice Av1 u2.length cv1 ∧ Holds E sc (pt b5 (.cells #[.int .i64 x3.kind, .int .i64 x3.proc, .slice A2e1 x3.ops.length c2e1] 73 (0, 0)) :: (kEv.sh sc).Osl (.slice Av1 u2.length cv1) u2 :: L) w] mixed (by simp) rfl (by kernel_rfl) (by kernel_rfl) (by kernel_rfl) (by simp) rfl H (by simp only [List.take_succ_cons, List.take_zero]; exact rfl) (by simp only [List.drop_succ_cons, List.drop_zero]; exact rfl)
        (fun x => by simp only [ov, Act.put, List.setIfInBounds_toArray, List.set_cons_succ, List.set_cons_zero, Nat.zero_add, Nat.reduceAdd]; exact rfl) ?_ ?_ ?_ ?_
      · refine ⟨?_, ?_, ?_, ?_, ?_, trivial⟩
        · intro w x hS; have H : Holds E sL3 (pt b5 (.cells #[.int .i64 x3.kind, .int .i64 x3.proc, .slice A2e1 x3.ops.length c2e1] 73 (0, 0)) :: (kEv.sh sL3).Osl (.slice A_y3_3 y3_3.length c_y3_3) y3_3 :: L) w := hS; exact ⟨_, _, Sub.refl _, H⟩
        · intro w x hS; obtain ⟨sc, Ar10, cr10, hsc, hf1, e7, H⟩ := hS; exact ⟨_, _, hsc, H⟩
        · intro w x hS; obtain ⟨sc, Ar10, cr10, hsc, hf1, e7, e8, H⟩ := hS; exact ⟨_, _, hsc, H⟩
        · intro w x hS; obtain ⟨sc, Ar10, cr10, b21, hsc, hf1, e7, e8, e9, H⟩ := hS; replace H := H.front 1 rfl; simp only [List.eraseIdx_cons_succ, List.eraseIdx_cons_zero] at H; exact ⟨_, _, hsc, H⟩
        · intro w x hS; obtain ⟨sc, Ar10, cr10, b21, Av1, cv1, hsc, hf1, e7, e8, e9, e10, H⟩ := hS; exact ⟨_, _, hsc, H⟩
      · refine ⟨?_, ?_, ?_, ?_, ?_, ?_, ?_, ?_, ?_, ?_, ?_, trivial⟩
        · refine .inr ?_; intro s' R w' x Φ hs H hx hΦ; refine wantG rfl ?_; refine O_mv rfl rfl ?_; exact hΦ
        · refine .inr ?_; intro s' R w' x Φ hs H hx hΦ; refine wantG rfl ?_; refine O_fld rfl Tryd.underlying73 rfl (Tryd.sizeOf3 _) rfl ?_; exact hΦ
        · refine .inr ?_; intro s' R w' x Φ hs H hx hΦ; have e1 : x 1 = .pointer (some ⟨b5, 0, none⟩) := hx 1 (by decide) (by decide); simp only [e1]; refine wantG rfl ?_; refine L_1 0 _ _ rfl (Tryd.isAgg3 _) rfl H rfl rfl ?_; exact hΦ
        · refine .inr ?_; intro s' R w' x Φ hs H hx hΦ; refine wantG rfl ?_; refine O_fld rfl Tryd.underlying73 rfl (Tryd.sizeOf3 _) rfl ?_; exact hΦ
        · refine .inr ?_; intro s' R w' x Φ hs H hx hΦ; have e3 : x 3 = .pointer (some ⟨b5, 1, none⟩) := hx 3 (by decide) (by decide); simp only [e3]; refine wantG rfl ?_; refine L_1 0 _ _ rfl (Tryd.isAgg3 _) rfl H rfl rfl ?_; exact hΦ
        · refine .inr ?_; intro s' R w' x Φ hs H hx hΦ; refine wantG rfl ?_; refine O_fld rfl Tryd.underlying73 rfl (Tryd.sizeOf71 _) rfl ?_; exact hΦ
        · refine .inr ?_; intro s' R w' x Φ hs H hx hΦ; have e5 : x 5 = .pointer (some ⟨b5, 2, none⟩) := hx 5 (by decide) (by decide); simp only [e5]; refine wantG rfl ?_; refine L_1 0 _ _ rfl (Tryd.isAgg71 _) rfl H rfl rfl ?_; exact hΦ
        · exact .inl (by decide)
        · exact .inl (by decide)
        · exact .inl (by decide)
        · exact .inl (by decide)
      · refine ⟨?_, ?_, ?_, ?_, trivial⟩
        · intro o ho; obtain rfl := Option.some.inj ho; intro w' x Φ hS hx hΦ
          have H : Holds E sL3 (pt b5 (.cells #[.int .i64 x3.kind, .int .i64 x3.proc, .slice A2e1 x3.ops.length c2e1] 73 (0, 0)) :: (kEv.sh sL3).Osl (.slice A_y3_3 y3_3.length c_y3_3) y3_3 :: L) w' := hS; clear hS
          have hsc := Sub.refl sL3
          have e6 : x 6 = .slice A2e1 x3.ops.length c2e1 := hx 6 (by decide) (by decide)
          simp only [e6]
          refine wantG rfl ?_
          refine O_call1 rfl Tryd.func68 rfl rfl rfl ?_; refine (assayerplain_Ops_w (a0 := x3.ops) (h_p0 := h2e1) (hm := gx1) (H := H)).mono ?_
          clear H
          rintro e w1 ⟨Ar10, cr10, nr10, s1, rfl, hs', H⟩; refine ⟨_, rfl, ?_⟩
          obtain rfl := osl_len 0 H rfl
          replace h_p0 := h_p0.mono hs'
          replace hCe1 := hCe1.mono hs'
          replace h2e1 := h2e1.mono hs'
          replace H := Holds.mapAt (A := (kEv.sh sL3).Osl (.slice A_y3_3 y3_3.length c_y3_3) y3_3) (B := (kEv.sh s1).Osl (.slice A_y3_3 y3_3.length c_y3_3) y3_3) 2 rfl (fun h k => Kin.Osl.sh_mono (d := kEv) hs' h k) H; simp only [List.set_cons_succ, List.set_cons_zero] at H
          replace hsc := hsc.trans hs'
          skip
          obtain ⟨s2, hs', H, hf1⟩ := Kin.Osl.fr H; replace hf1 := hf1.unsh hs'
          replace h_p0 := h_p0.mono hs'
          replace hCe1 := hCe1.mono hs'
          replace h2e1 := h2e1.mono hs'
          replace H := Holds.mapAt (A := (kEv.sh s1).Osl (.slice A_y3_3 y3_3.length c_y3_3) y3_3) (B := (kEv.sh s2).Osl (.slice A_y3_3 y3_3.length c_y3_3) y3_3) 1 rfl (fun h k => Kin.Osl.sh_mono (d := kEv) hs' h k) H; simp only [List.set_cons_succ, List.set_cons_zero] at H
          replace hsc := hsc.trans hs'
          exact hΦ _ _ ⟨s2, Ar10, cr10, hsc, hf1, updV_same, H⟩
        · intro o ho; obtain rfl := Option.some.inj ho; intro w' x Φ hS hx hΦ
          obtain ⟨sc, Ar10, cr10, hsc, hf1, e7, H⟩ := hS
          replace h_p0 := h_p0.mono hsc
          replace hCe1 := hCe1.mono hsc
          replace h2e1 := h2e1.mono hsc
          have e2 : x 2 = .int .i64 x3.kind := hx 2 (by decide) (by decide)
          have e4 : x 4 = .int .i64 x3.proc := hx 4 (by decide) (by decide)
          simp only [e2, e4, e7]
          refine wantG rfl ?_
          refine O_bld (cs := [.int .i64 x3.kind, .int .i64 x3.proc, .slice Ar10 u1.length cr10]) rfl (by kernel_rfl) ?_
          exact hΦ _ _ ⟨sc, Ar10, cr10, hsc, hf1, (updV_ne (by decide)).trans e7, updV_same, H⟩
        · intro o ho; obtain rfl := Option.some.inj ho; intro w' x Φ hS hx hΦ
          obtain ⟨sc, Ar10, cr10, hsc, hf1, e7, e8, H⟩ := hS
          replace h_p0 := h_p0.mono hsc
          replace hCe1 := hCe1.mono hsc
          replace h2e1 := h2e1.mono hsc
          simp only [e8]
          refine wantG rfl ?_
          refine SL_1 rfl (v := .agg #[.int .i64 x3.kind, .int .i64 x3.proc, .slice Ar10 u1.length cr10]) rfl Tryd.underlying55 Tryd.sizeOf73 Tryd.zeroValue73 rfl rfl (by decide) (by decide) H ?_; clear H; intro b21 w1 H; (try simp only [Value.cells] at H)
          exact hΦ _ _ ⟨sc, Ar10, cr10, b21, hsc, hf1, (updV_ne (by decide)).trans e7, (updV_ne (by decide)).trans e8, updV_same, H⟩
        · intro o ho; obtain rfl := Option.some.inj ho; intro w' x Φ hS hx hΦ
          obtain ⟨sc, Ar10, cr10, b21, hsc, hf1, e7, e8, e9, H⟩ := hS
          replace h_p0 := h_p0.mono hsc
          replace hCe1 := hCe1.mono hsc
          replace h2e1 := h2e1.mono hsc
          have e0 : x 0 = .slice A_y3_3 y3_3.length c_y3_3 := hx 0 (by decide) (by decide)
          simp only [e0, e9]
          refine wantG rfl ?_
          refine AP_1 (p := (⟨x3.kind, x3.proc, u1⟩ : Ev)) 1 kEv_at _ _ rfl (kEv_mk' (s := sc) (x := (⟨x3.kind, x3.proc, u1⟩ : Ev)) h0e1 h1e1 hf1) H rfl rfl rfl hroomgx2 ?_; clear H; intro v1 w1 H; (try simp only [List.set_cons_succ, List.set_cons_zero] at H)
          rw [← egx2] at H
          obtain ⟨Av1, cv1, rfl, -⟩ := (H.front 1 rfl).len
          exact hΦ _ _ ⟨sc, Ar10, cr10, b21, Av1, cv1, hsc, hf1, (updV_ne (by decide)).trans e7, (updV_ne (by decide)).trans e8, (updV_ne (by decide)).trans e9, updV_same, H⟩
      · clear H
        intro w' x hS hx
        obtain ⟨sc, Ar10, cr10, b21, Av1, cv1, hsc, hf1, e7, e8, e9, e10, H⟩ := hS
        replace h_p0 := h_p0.mono hsc
        replace hCe1 := hCe1.mono hsc
        replace h2e1 := h2e1.mono hsc
        replace hS := hS.trans hsc
        replace hs3 := hs3.trans hsc
        have e0 : x 0 = .slice A_y3_3 y3_3.length c_y3_3 := hx 0 (by decide) (by decide)
        have e1 : x 1 = .pointer (some ⟨b5, 0, none⟩) := hx 1 (by decide) (by decide)
        have e2 : x 2 = .int .i64 x3.kind := hx 2 (by decide) (by decide)
        have e3 : x 3 = .pointer (some ⟨b5, 1, none⟩) := hx 3 (by decide) (by decide)
        have e4 : x 4 = .int .i64 x3.proc := hx 4 (by decide) (by decide)
        have e5 : x 5 = .pointer (some ⟨b5, 2, none⟩) := hx 5 (by decide) (by decide)
        have e6 : x 6 = .slice A2e1 x3.ops.length c2e1 := hx 6 (by decide) (by decide)
        simp only [e0, e1, e2, e3, e4, e5, e6, e7, e8, e9, e10]
        clear hx
        apply seq_op (V := .slice Av1 u2.length cv1) rfl
        · exact fun _ h => O_as rfl rfl h
        (try simp only [PT])
        refine list_end ?_
        refine block_norm ?_
        refine then_norm ?_
        refine wp_region_lit ?_
        apply seq_op (V := .int .i64 (IntKind.i64.wrap ((k3 : Int) + 1))) rfl
        · exact fun _ h => O_bin rfl rfl rfl eqg_int r_add h
        (try simp only [PT])
        apply seq_op (V := .int .i64 (IntKind.i64.wrap ((k3 : Int) + 1))) rfl
        · exact fun _ h => O_mv rfl rfl h
        (try simp only [PT])
        refine list_end ?_
        refine then_norm ?_
        replace H := H.drop
        refine ⟨⟨⟨rfl, rfl, rfl, rfl, rfl, rfl, rfl, rfl⟩, rfl⟩, ⟨k3 + 1, _, sc, u2, Av1, cv1, hs3, hd3'', wrap_succ hl3 hn3, rfl, hq3, H⟩, ?_⟩
        exact meas_succ hl3 hn3
    · have hc1 := hc
      clear hc
      obtain rfl := rng_f hd3 hc1
      rw [assayerplain_Events_l3] at hq3
      refine wp_exit ?_
      refine then_exit ?_
      refine then_exit ?_
      have hq3 := Option.some.inj hq3
      subst hq3
      (try dsimp only at hm)
      refine block_exit ?_
      refine then_norm ?_
      refine wp_seq ?_
      refine wp_region_lit ?_
      apply seq_op (V := .slice A_y3_3 y3_3.length c_y3_3) rfl
      · exact fun _ h => O_mv rfl rfl h
      (try simp only [PT])
      apply seq_op (V := .slice A_y3_3 y3_3.length c_y3_3) rfl
      · exact fun _ h => O_as rfl rfl h
      (try simp only [PT])
      refine list_end ?_
      refine then_norm ?_
      refine wp_ret ?_
      have hm := Option.some.inj hm
      subst hm
      exact ret1 rfl (rv_tmp rfl) rfl ⟨A_y3_3, c_y3_3, y3_3.length, sL3, rfl, hS, H⟩
def histtext_isKey_l4 (a0 : ByteArray) : Nat → Nat → Option ((Bool ⊕ Unit))
  | k4, 0 => some (.inr ())
  | k4, r4 + 1 => (btI a0 (k4 : Int)).bind fun u2 => if (decide (u2 < 97)) = true then (if (decide (u2 < 48)) = true then (some (.inl false)) else (if (decide (u2 > 57)) = true then (some (.inl false)) else (histtext_isKey_l4 a0 (k4 + 1) r4))) else (if (decide (u2 > 122)) = true then (if (decide (u2 < 48)) = true then (some (.inl false)) else (if (decide (u2 > 57)) = true then (some (.inl false)) else (histtext_isKey_l4 a0 (k4 + 1) r4))) else (histtext_isKey_l4 a0 (k4 + 1) r4))

def histtext_isKey_f (a0 : ByteArray) : Option Bool := if ((decide ((a0.size : Int) < 1)) || (decide ((a0.size : Int) > 6))) = true then (some false) else ((btI a0 0).bind fun u1 => if (decide (u1 < 97)) = true then (some false) else (if (decide (u1 > 122)) = true then (some false) else ((histtext_isKey_l4 a0 0 ((a0.size : Int)).toNat).bind fun | .inl z4_r => (some z4_r) | .inr () => (some true))))

set_option maxHeartbeats 4000000 in
theorem histtext_isKey_w {E : World} {s : SH} {L : List HP} {w : World} {a0 : ByteArray} (hz_p0 : a0.size ≤ 140737488351232) {R : Bool} (hm : histtext_isKey_f a0 = some R) (H : Holds E s (L) w) :
    Calls Tryd.prog 172 #[.string a0] w fun e w' => e = .returned (.bool R) ∧ Holds E s (L) w' := by
  unfold histtext_isKey_f at hm
  go_enter Tryd.func172, Tryd.ntmps172
  refine wp_seq ?_
  refine wp_region_lit ?_
  apply seq_op (V := .bool false) rfl
  · exact fun _ h => O_as rfl rfl h
  (try simp only [PT])
  refine list_end ?_
  refine then_norm ?_
  refine wp_seq ?_
  refine wp_seq ?_
  rcases Bool.eq_false_or_eq_true ((decide ((a0.size : Int) < 1)) || (decide ((a0.size : Int) > 6))) with hg1 | hg1
  · replace hm := ifT hg1 hm
    refine wp_region_lit ?_
    apply seq_op (V := .string a0) rfl
    · exact fun _ h => O_mv rfl rfl h
    (try simp only [PT])
    apply seq_op (V := .int .i64 (a0.size : Int)) rfl
    · exact fun _ h => O_slen rfl Tryd.underlying9 rfl h
    (try simp only [PT])
    apply seq_op (V := .bool (decide ((a0.size : Int) < 1))) rfl
    · exact fun _ h => O_bin rfl rfl rfl eqg_int r_lss h
    (try simp only [PT])
    apply seq_op (V := .bool (decide ((a0.size : Int) < 1))) rfl
    · exact fun _ h => O_mv rfl rfl h
    (try simp only [PT])
    refine seq_opg (c := (!(decide ((a0.size : Int) < 1)))) (V := .string a0) (by first | exact wanted_f rfl rfl rfl | exact wanted_vf rfl rfl rfl) ?_ ?_
    · intro hc Φ hΦ; refine O_mv rfl rfl ?_; exact hΦ
    (try simp only [PT])
    refine seq_opg (c := (!(decide ((a0.size : Int) < 1)))) (V := .int .i64 (a0.size : Int)) (by first | exact wanted_f rfl rfl rfl | exact wanted_vf rfl rfl rfl) ?_ ?_
    · intro hc Φ hΦ; (repeat (first | rw [vg_of hc] | rw [vg_of (and_l hc)] | rw [vg_of (and_l (and_l hc))] | rw [vg_of (and_l (and_l (and_l hc)))] | rw [vg_and hc])); refine O_slen rfl Tryd.underlying9 rfl ?_; exact hΦ
    (try simp only [PT])
    refine seq_opg (c := (!(decide ((a0.size : Int) < 1)))) (V := .bool (decide ((a0.size : Int) > 6))) (by first | exact wanted_f rfl rfl rfl | exact wanted_vf rfl rfl rfl) ?_ ?_
    · intro hc Φ hΦ; (repeat (first | rw [vg_of hc] | rw [vg_of (and_l hc)] | rw [vg_of (and_l (and_l hc))] | rw [vg_of (and_l (and_l (and_l hc)))] | rw [vg_and hc])); refine O_bin rfl rfl rfl eqg_int r_gtr ?_; exact hΦ
    (try simp only [PT])
    apply seq_op (V := .bool ((decide ((a0.size : Int) < 1)) || (decide ((a0.size : Int) > 6)))) rfl
    · exact fun _ h => G_or _ _ _ rfl rfl rfl rfl h
    (try simp only [PT])
    apply seq_op (V := .bool ((decide ((a0.size : Int) < 1)) || (decide ((a0.size : Int) > 6)))) rfl
    · exact fun _ h => O_mv rfl rfl h
    (try simp only [PT])
    refine seq_skip ((wanted_f rfl rfl rfl).trans (congrArg not hg1)) ?_
    (try simp only [PT])
    refine seq_skip ((wanted_f rfl rfl rfl).trans (congrArg not hg1)) ?_
    (try simp only [PT])
    refine seq_skip ((wanted_f rfl rfl rfl).trans (congrArg not hg1)) ?_
    (try simp only [PT])
    apply seq_op (V := .bool true) rfl
    · exact fun _ h => O_pickT rfl rfl hg1 rfl h
    (try simp only [PT])
    apply seq_op (V := .bool true) rfl
    · exact fun _ h => O_mv rfl rfl h
    (try simp only [PT])
    refine seq_skip ((wanted_f rfl rfl rfl).trans (congrArg not rfl)) ?_
    (try simp only [PT])
    refine seq_skip ((wanted_f rfl rfl rfl).trans (congrArg not rfl)) ?_
    (try simp only [PT])
    refine seq_skip ((wanted_f rfl rfl rfl).trans (congrArg not rfl)) ?_
    (try simp only [PT])
    apply seq_op (V := .bool true) rfl
    · exact fun _ h => O_pickT rfl rfl rfl rfl h
    (try simp only [PT])
    refine list_end ?_
    refine then_norm ?_
    refine wp_cond_true rfl ?_
    refine wp_seq ?_
    refine wp_region_lit ?_
    apply seq_op (V := .bool false) rfl
    · exact fun _ h => O_as rfl rfl h
    (try simp only [PT])
    refine list_end ?_
    refine then_norm ?_
    refine wp_ret ?_
    refine then_ret ?_
    have hm := Option.some.inj hm
    subst hm
    exact ret1 rfl (rv_tmp rfl) rfl ⟨rfl, H⟩
  · replace hm := ifF hg1 hm
    obtain ⟨u1, gx1, hm⟩ := bs hm
    obtain ⟨kk1, gk1, gl1, gd1⟩ := btI_some gx1
    rcases Bool.eq_false_or_eq_true (decide (u1 < 97)) with hg2 | hg2
    · replace hm := ifT hg2 hm
      obtain ⟨kk2, gk2, gl2, gd2⟩ := btI_some gx1
      refine wp_region_lit ?_
      apply seq_op (V := .string a0) rfl
      · exact fun _ h => O_mv rfl rfl h
      (try simp only [PT])
      apply seq_op (V := .int .i64 (a0.size : Int)) rfl
      · exact fun _ h => O_slen rfl Tryd.underlying9 rfl h
      (try simp only [PT])
      apply seq_op (V := .bool (decide ((a0.size : Int) < 1))) rfl
      · exact fun _ h => O_bin rfl rfl rfl eqg_int r_lss h
      (try simp only [PT])
      apply seq_op (V := .bool (decide ((a0.size : Int) < 1))) rfl
      · exact fun _ h => O_mv rfl rfl h
      (try simp only [PT])
      refine seq_opg (c := (!(decide ((a0.size : Int) < 1)))) (V := .string a0) (by first | exact wanted_f rfl rfl rfl | exact wanted_vf rfl rfl rfl) ?_ ?_
      · intro hc Φ hΦ; refine O_mv rfl rfl ?_; exact hΦ
      (try simp only [PT])
      refine seq_opg (c := (!(decide ((a0.size : Int) < 1)))) (V := .int .i64 (a0.size : Int)) (by first | exact wanted_f rfl rfl rfl | exact wanted_vf rfl rfl rfl) ?_ ?_
      · intro hc Φ hΦ; (repeat (first | rw [vg_of hc] | rw [vg_of (and_l hc)] | rw [vg_of (and_l (and_l hc))] | rw [vg_of (and_l (and_l (and_l hc)))] | rw [vg_and hc])); refine O_slen rfl Tryd.underlying9 rfl ?_; exact hΦ
      (try simp only [PT])
      refine seq_opg (c := (!(decide ((a0.size : Int) < 1)))) (V := .bool (decide ((a0.size : Int) > 6))) (by first | exact wanted_f rfl rfl rfl | exact wanted_vf rfl rfl rfl) ?_ ?_
      · intro hc Φ hΦ; (repeat (first | rw [vg_of hc] | rw [vg_of (and_l hc)] | rw [vg_of (and_l (and_l hc))] | rw [vg_of (and_l (and_l (and_l hc)))] | rw [vg_and hc])); refine O_bin rfl rfl rfl eqg_int r_gtr ?_; exact hΦ
      (try simp only [PT])
      apply seq_op (V := .bool ((decide ((a0.size : Int) < 1)) || (decide ((a0.size : Int) > 6)))) rfl
      · exact fun _ h => G_or _ _ _ rfl rfl rfl rfl h
      (try simp only [PT])
      apply seq_op (V := .bool ((decide ((a0.size : Int) < 1)) || (decide ((a0.size : Int) > 6)))) rfl
      · exact fun _ h => O_mv rfl rfl h
      (try simp only [PT])
      refine seq_opw (V := .string a0) ((wanted_f rfl rfl rfl).trans (congrArg not hg1)) ?_ ?_
      · exact fun _ h => O_mv rfl rfl h
      (try simp only [PT])
      refine seq_opw (V := .int .u8 u1) ((wanted_f rfl rfl rfl).trans (congrArg not hg1)) ?_ ?_
      · exact fun _ h => O_sidx rfl Tryd.underlying9 rfl rfl gk2 gl2 gd2 h
      (try simp only [PT])
      refine seq_opw (V := .bool (decide (u1 < 97))) ((wanted_f rfl rfl rfl).trans (congrArg not hg1)) ?_ ?_
      · exact fun _ h => O_bin rfl rfl rfl eqg_int r_lss h
      (try simp only [PT])
      apply seq_op (V := .bool (decide (u1 < 97))) rfl
      · exact fun _ h => O_pickF rfl rfl hg1 rfl h
      (try simp only [PT])
      apply seq_op (V := .bool (decide (u1 < 97))) rfl
      · exact fun _ h => O_mv rfl rfl h
      (try simp only [PT])
      refine seq_skip ((wanted_f rfl rfl rfl).trans (congrArg not hg2)) ?_
      (try simp only [PT])
      refine seq_skip ((wanted_f rfl rfl rfl).trans (congrArg not hg2)) ?_
      (try simp only [PT])
      refine seq_skip ((wanted_f rfl rfl rfl).trans (congrArg not hg2)) ?_
      (try simp only [PT])
      apply seq_op (V := .bool true) rfl
      · exact fun _ h => O_pickT rfl rfl hg2 rfl h
      (try simp only [PT])
      refine list_end ?_
      refine then_norm ?_
      refine wp_cond_true rfl ?_
      refine wp_seq ?_
      refine wp_region_lit ?_
      apply seq_op (V := .bool false) rfl
      · exact fun _ h => O_as rfl rfl h
      (try simp only [PT])
      refine list_end ?_
      refine then_norm ?_
      refine wp_ret ?_
      refine then_ret ?_
      have hm := Option.some.inj hm
      subst hm
      exact ret1 rfl (rv_tmp rfl) rfl ⟨rfl, H⟩
    · replace hm := ifF hg2 hm
      obtain ⟨kk2, gk2, gl2, gd2⟩ := btI_some gx1
      obtain ⟨kk3, gk3, gl3, gd3⟩ := btI_some gx1
      refine wp_region_lit ?_
      apply seq_op (V := .string a0) rfl
      · exact fun _ h => O_mv rfl rfl h
      (try simp only [PT])
      apply seq_op (V := .int .i64 (a0.size : Int)) rfl
      · exact fun _ h => O_slen rfl Tryd.underlying9 rfl h
      (try simp only [PT])
      apply seq_op (V := .bool (decide ((a0.size : Int) < 1))) rfl
      · exact fun _ h => O_bin rfl rfl rfl eqg_int r_lss h
      (try simp only [PT])
      apply seq_op (V := .bool (decide ((a0.size : Int) < 1))) rfl
      · exact fun _ h => O_mv rfl rfl h
      (try simp only [PT])
      refine seq_opg (c := (!(decide ((a0.size : Int) < 1)))) (V := .string a0) (by first | exact wanted_f rfl rfl rfl | exact wanted_vf rfl rfl rfl) ?_ ?_
      · intro hc Φ hΦ; refine O_mv rfl rfl ?_; exact hΦ
      (try simp only [PT])
      refine seq_opg (c := (!(decide ((a0.size : Int) < 1)))) (V := .int .i64 (a0.size : Int)) (by first | exact wanted_f rfl rfl rfl | exact wanted_vf rfl rfl rfl) ?_ ?_
      · intro hc Φ hΦ; (repeat (first | rw [vg_of hc] | rw [vg_of (and_l hc)] | rw [vg_of (and_l (and_l hc))] | rw [vg_of (and_l (and_l (and_l hc)))] | rw [vg_and hc])); refine O_slen rfl Tryd.underlying9 rfl ?_; exact hΦ
      (try simp only [PT])
      refine seq_opg (c := (!(decide ((a0.size : Int) < 1)))) (V := .bool (decide ((a0.size : Int) > 6))) (by first | exact wanted_f rfl rfl rfl | exact wanted_vf rfl rfl rfl) ?_ ?_
      · intro hc Φ hΦ; (repeat (first | rw [vg_of hc] | rw [vg_of (and_l hc)] | rw [vg_of (and_l (and_l hc))] | rw [vg_of (and_l (and_l (and_l hc)))] | rw [vg_and hc])); refine O_bin rfl rfl rfl eqg_int r_gtr ?_; exact hΦ
      (try simp only [PT])
      apply seq_op (V := .bool ((decide ((a0.size : Int) < 1)) || (decide ((a0.size : Int) > 6)))) rfl
      · exact fun _ h => G_or _ _ _ rfl rfl rfl rfl h
      (try simp only [PT])
      apply seq_op (V := .bool ((decide ((a0.size : Int) < 1)) || (decide ((a0.size : Int) > 6)))) rfl
      · exact fun _ h => O_mv rfl rfl h
      (try simp only [PT])
      refine seq_opw (V := .string a0) ((wanted_f rfl rfl rfl).trans (congrArg not hg1)) ?_ ?_
      · exact fun _ h => O_mv rfl rfl h
      (try simp only [PT])
      refine seq_opw (V := .int .u8 u1) ((wanted_f rfl rfl rfl).trans (congrArg not hg1)) ?_ ?_
      · exact fun _ h => O_sidx rfl Tryd.underlying9 rfl rfl gk2 gl2 gd2 h
      (try simp only [PT])
      refine seq_opw (V := .bool (decide (u1 < 97))) ((wanted_f rfl rfl rfl).trans (congrArg not hg1)) ?_ ?_
      · exact fun _ h => O_bin rfl rfl rfl eqg_int r_lss h
      (try simp only [PT])
      apply seq_op (V := .bool (decide (u1 < 97))) rfl
      · exact fun _ h => O_pickF rfl rfl hg1 rfl h
      (try simp only [PT])
      apply seq_op (V := .bool (decide (u1 < 97))) rfl
      · exact fun _ h => O_mv rfl rfl h
      (try simp only [PT])
      refine seq_opw (V := .string a0) ((wanted_f rfl rfl rfl).trans (congrArg not hg2)) ?_ ?_
      · exact fun _ h => O_mv rfl rfl h
      (try simp only [PT])
      refine seq_opw (V := .int .u8 u1) ((wanted_f rfl rfl rfl).trans (congrArg not hg2)) ?_ ?_
      · exact fun _ h => O_sidx rfl Tryd.underlying9 rfl rfl gk3 gl3 gd3 h
      (try simp only [PT])
      refine seq_opw (V := .bool (decide (u1 > 122))) ((wanted_f rfl rfl rfl).trans (congrArg not hg2)) ?_ ?_
      · exact fun _ h => O_bin rfl rfl rfl eqg_int r_gtr h
      (try simp only [PT])
      apply seq_op (V := .bool (decide (u1 > 122))) rfl
      · exact fun _ h => O_pickF rfl rfl hg2 rfl h
      (try simp only [PT])
      refine list_end ?_
      refine then_norm ?_
      refine wp_cond_split rfl (fun hc => ?_) (fun hc => ?_)
      · have hc1 := hc
        clear hc
        replace hm := ifT hc1 hm
        refine wp_seq ?_
        refine wp_region_lit ?_
        apply seq_op (V := .bool false) rfl
        · exact fun _ h => O_as rfl rfl h
        (try simp only [PT])
        refine list_end ?_
        refine then_norm ?_
        refine wp_ret ?_
        refine then_ret ?_
        have hm := Option.some.inj hm
        subst hm
        exact ret1 rfl (rv_tmp rfl) rfl ⟨rfl, H⟩
      · have hc1 := hc
        clear hc
        replace hm := ifF hc1 hm
        refine wp_skip ?_
        refine then_norm ?_
        refine wp_seq ?_
        refine wp_seq ?_
        refine wp_region_lit ?_
        apply seq_op (V := .string a0) rfl
        · exact fun _ h => O_mv rfl rfl h
        (try simp only [PT])
        apply seq_op (V := .int .i64 (a0.size : Int)) rfl
        · exact fun _ h => O_slen rfl Tryd.underlying9 rfl h
        (try simp only [PT])
        apply seq_op (V := .int .i64 0) rfl
        · exact fun _ h => O_mv rfl rfl h
        (try simp only [PT])
        refine list_end ?_
        refine then_norm ?_
        refine wp_block ?_
        obtain ⟨R4, hq4, hm⟩ := bs hm
        have hn4 := int_le (size_i hz_p0)
        refine wp_loopF [none, none, some 2, some 3, none, none, none, none, none, none, none, none, none, none, none, none, none, none, none, none, none, none, none, none, some 24, some 25, some 26, some 27, some 28, some 29, some 30, some 31, some 32, some 33, some 34, some 35, some 36, some 37, some 38, some 39, some 40, some 41, some 42, some 43, some 44, some 45, some 46, some 47, some 48, some 49] rfl (by simp) (fun f w => ∃ (k4 : Nat) (r4 : Nat), k4 + r4 = ((a0.size : Int)).toNat ∧ f 24 = .int .i64 (k4 : Int) ∧ histtext_isKey_l4 a0 k4 r4 = some R4 ∧ Holds E s (L) w) (fun f w => ((a0.size : Int)).toNat - (intOf (f 24)).toNat) ?_ ?_
        · exact ⟨0, _, Nat.zero_add _, rfl, hq4, H⟩
        · clear H
          intro f w hI
          obtain ⟨k4, r4, hd4, hf24, hq4', H⟩ := hI
          clear hq4; have hq4 := hq4'; clear hq4'
          simp only [ovm, mixM]
          simp only [hf24]; clear hf24
          refine wp_seq ?_
          refine wp_region_lit ?_
          apply seq_op (V := .bool (decide ((k4 : Int) < (a0.size : Int)))) rfl
          · exact fun _ h => O_bin rfl rfl rfl eqg_int r_lss h
          (try simp only [PT])
          refine list_end ?_
          refine then_norm ?_
          refine wp_seq ?_
          refine wp_cond_split rfl (fun hc => ?_) (fun hc => ?_)
          · have hc2 := hc
            clear hc
            obtain ⟨r4', rfl, hl4, hd4''⟩ := irng_t hd4 hc2
            rw [histtext_isKey_l4] at hq4
            refine wp_skip ?_
            refine then_norm ?_
            refine wp_seq ?_
            refine wp_block ?_
            refine wp_seq ?_
            refine wp_region_lit ?_
            apply seq_op (V := .int .i64 (k4 : Int)) rfl
            · exact fun _ h => O_mv rfl rfl h
            (try simp only [PT])
            apply seq_op (V := .int .i64 (k4 : Int)) rfl
            · exact fun _ h => O_as rfl rfl h
            (try simp only [PT])
            refine list_end ?_
            refine then_norm ?_
            refine wp_seq ?_
            obtain ⟨u2, gx2, hq4⟩ := bs hq4
            obtain ⟨kk4, gk4, gl4, gd4⟩ := btI_some gx2
            rcases Bool.eq_false_or_eq_true (decide (u2 < 97)) with hg3 | hg3
            · replace hq4 := ifT hg3 hq4
              obtain ⟨kk5, gk5, gl5, gd5⟩ := btI_some gx2
              obtain ⟨kk6, gk6, gl6, gd6⟩ := btI_some gx2
              rcases Bool.eq_false_or_eq_true (decide (u2 < 48)) with hg4 | hg4
              · replace hq4 := ifT hg4 hq4
                obtain ⟨kk7, gk7, gl7, gd7⟩ := btI_some gx2
                obtain ⟨kk8, gk8, gl8, gd8⟩ := btI_some gx2
                refine wp_region_lit ?_
                apply seq_op (V := .string a0) rfl
                · exact fun _ h => O_mv rfl rfl h
                (try simp only [PT])
                apply seq_op (V := .int .i64 (k4 : Int)) rfl
                · exact fun _ h => O_mv rfl rfl h
                (try simp only [PT])
                apply seq_op (V := .int .u8 u2) rfl
                · exact fun _ h => O_sidx rfl Tryd.underlying9 rfl rfl gk7 gl7 gd7 h
                (try simp only [PT])
                apply seq_op (V := .bool (decide (u2 < 97))) rfl
                · exact fun _ h => O_bin rfl rfl rfl eqg_int r_lss h
                (try simp only [PT])
                apply seq_op (V := .bool (decide (u2 < 97))) rfl
                · exact fun _ h => O_mv rfl rfl h
                (try simp only [PT])
                refine seq_skip ((wanted_f rfl rfl rfl).trans (congrArg not hg3)) ?_
                (try simp only [PT])
                refine seq_skip ((wanted_f rfl rfl rfl).trans (congrArg not hg3)) ?_
                (try simp only [PT])
                refine seq_skip ((wanted_f rfl rfl rfl).trans (congrArg not hg3)) ?_
                (try simp only [PT])
                refine seq_skip ((wanted_f rfl rfl rfl).trans (congrArg not hg3)) ?_
                (try simp only [PT])
                apply seq_op (V := .bool true) rfl
                · exact fun _ h => O_pickT rfl rfl hg3 rfl h
                (try simp only [PT])
                apply seq_op (V := .bool true) rfl
                · exact fun _ h => O_mv rfl rfl h
                (try simp only [PT])
                refine seq_opw (V := .string a0) ((wanted_t rfl rfl rfl).trans rfl) ?_ ?_
                · exact fun _ h => O_mv rfl rfl h
                (try simp only [PT])
                refine seq_opw (V := .int .i64 (k4 : Int)) ((wanted_t rfl rfl rfl).trans rfl) ?_ ?_
                · exact fun _ h => O_mv rfl rfl h
                (try simp only [PT])
                refine seq_opw (V := .int .u8 u2) ((wanted_t rfl rfl rfl).trans rfl) ?_ ?_
                · exact fun _ h => O_sidx rfl Tryd.underlying9 rfl rfl gk8 gl8 gd8 h
                (try simp only [PT])
                refine seq_opw (V := .bool (decide (u2 < 48))) ((wanted_t rfl rfl rfl).trans rfl) ?_ ?_
                · exact fun _ h => O_bin rfl rfl rfl eqg_int r_lss h
                (try simp only [PT])
                refine seq_opw (V := .bool (decide (u2 < 48))) ((wanted_t rfl rfl rfl).trans rfl) ?_ ?_
                · exact fun _ h => O_mv rfl rfl h
                (try simp only [PT])
                refine seq_skip ((wanted_f rfl rfl rfl).trans (congrArg not hg4)) ?_
                (try simp only [PT])
                refine seq_skip ((wanted_f rfl rfl rfl).trans (congrArg not hg4)) ?_
                (try simp only [PT])
                refine seq_skip ((wanted_f rfl rfl rfl).trans (congrArg not hg4)) ?_
                (try simp only [PT])
                refine seq_skip ((wanted_f rfl rfl rfl).trans (congrArg not hg4)) ?_
                (try simp only [PT])
                refine seq_opw (V := .bool true) ((wanted_t rfl rfl rfl).trans rfl) ?_ ?_
                · exact fun _ h => O_pickT rfl rfl hg4 rfl h
                (try simp only [PT])
                apply seq_op (V := .bool true) rfl
                · exact fun _ h => O_pickT rfl rfl rfl rfl h
                (try simp only [PT])
                refine list_end ?_
                refine then_norm ?_
                refine wp_cond_true rfl ?_
                refine wp_seq ?_
                refine wp_region_lit ?_
                apply seq_op (V := .bool false) rfl
                · exact fun _ h => O_as rfl rfl h
                (try simp only [PT])
                refine list_end ?_
                refine then_norm ?_
                refine wp_ret ?_
                refine block_ret ?_
                refine then_ret ?_
                refine then_ret ?_
                refine block_ret ?_
                refine then_ret ?_
                have hq4 := Option.some.inj hq4
                subst hq4
                (try dsimp only at hm)
                have hm := Option.some.inj hm
                subst hm
                exact ret1 rfl (rv_tmp rfl) rfl ⟨rfl, H⟩
              · replace hq4 := ifF hg4 hq4
                obtain ⟨kk7, gk7, gl7, gd7⟩ := btI_some gx2
                obtain ⟨kk8, gk8, gl8, gd8⟩ := btI_some gx2
                obtain ⟨kk9, gk9, gl9, gd9⟩ := btI_some gx2
                refine wp_region_lit ?_
                apply seq_op (V := .string a0) rfl
                · exact fun _ h => O_mv rfl rfl h
                (try simp only [PT])
                apply seq_op (V := .int .i64 (k4 : Int)) rfl
                · exact fun _ h => O_mv rfl rfl h
                (try simp only [PT])
                apply seq_op (V := .int .u8 u2) rfl
                · exact fun _ h => O_sidx rfl Tryd.underlying9 rfl rfl gk7 gl7 gd7 h
                (try simp only [PT])
                apply seq_op (V := .bool (decide (u2 < 97))) rfl
                · exact fun _ h => O_bin rfl rfl rfl eqg_int r_lss h
                (try simp only [PT])
                apply seq_op (V := .bool (decide (u2 < 97))) rfl
                · exact fun _ h => O_mv rfl rfl h
                (try simp only [PT])
                refine seq_skip ((wanted_f rfl rfl rfl).trans (congrArg not hg3)) ?_
                (try simp only [PT])
                refine seq_skip ((wanted_f rfl rfl rfl).trans (congrArg not hg3)) ?_
                (try simp only [PT])
                refine seq_skip ((wanted_f rfl rfl rfl).trans (congrArg not hg3)) ?_
                (try simp only [PT])
                refine seq_skip ((wanted_f rfl rfl rfl).trans (congrArg not hg3)) ?_
                (try simp only [PT])
                apply seq_op (V := .bool true) rfl
                · exact fun _ h => O_pickT rfl rfl hg3 rfl h
                (try simp only [PT])
                apply seq_op (V := .bool true) rfl
                · exact fun _ h => O_mv rfl rfl h
                (try simp only [PT])
                refine seq_opw (V := .string a0) ((wanted_t rfl rfl rfl).trans rfl) ?_ ?_
                · exact fun _ h => O_mv rfl rfl h
                (try simp only [PT])
                refine seq_opw (V := .int .i64 (k4 : Int)) ((wanted_t rfl rfl rfl).trans rfl) ?_ ?_
                · exact fun _ h => O_mv rfl rfl h
                (try simp only [PT])
                refine seq_opw (V := .int .u8 u2) ((wanted_t rfl rfl rfl).trans rfl) ?_ ?_
                · exact fun _ h => O_sidx rfl Tryd.underlying9 rfl rfl gk8 gl8 gd8 h
                (try simp only [PT])
                refine seq_opw (V := .bool (decide (u2 < 48))) ((wanted_t rfl rfl rfl).trans rfl) ?_ ?_
                · exact fun _ h => O_bin rfl rfl rfl eqg_int r_lss h
                (try simp only [PT])
                refine seq_opw (V := .bool (decide (u2 < 48))) ((wanted_t rfl rfl rfl).trans rfl) ?_ ?_
                · exact fun _ h => O_mv rfl rfl h
                (try simp only [PT])
                refine seq_opw (V := .string a0) ((wanted_f rfl rfl rfl).trans (congrArg not hg4)) ?_ ?_
                · exact fun _ h => O_mv rfl rfl h
                (try simp only [PT])
                refine seq_opw (V := .int .i64 (k4 : Int)) ((wanted_f rfl rfl rfl).trans (congrArg not hg4)) ?_ ?_
                · exact fun _ h => O_mv rfl rfl h
                (try simp only [PT])
                refine seq_opw (V := .int .u8 u2) ((wanted_f rfl rfl rfl).trans (congrArg not hg4)) ?_ ?_
                · exact fun _ h => O_sidx rfl Tryd.underlying9 rfl rfl gk9 gl9 gd9 h
                (try simp only [PT])
                refine seq_opw (V := .bool (decide (u2 > 57))) ((wanted_f rfl rfl rfl).trans (congrArg not hg4)) ?_ ?_
                · exact fun _ h => O_bin rfl rfl rfl eqg_int r_gtr h
                (try simp only [PT])
                refine seq_opw (V := .bool (decide (u2 > 57))) ((wanted_t rfl rfl rfl).trans rfl) ?_ ?_
                · exact fun _ h => O_pickF rfl rfl hg4 rfl h
                (try simp only [PT])
                apply seq_op (V := .bool (decide (u2 > 57))) rfl
                · exact fun _ h => O_pickT rfl rfl rfl rfl h
                (try simp only [PT])
                refine list_end ?_
                refine then_norm ?_
                refine wp_cond_split rfl (fun hc => ?_) (fun hc => ?_)
                · have hc3 := hc
                  clear hc
                  replace hq4 := ifT hc3 hq4
                  refine wp_seq ?_
                  refine wp_region_lit ?_
                  apply seq_op (V := .bool false) rfl
                  · exact fun _ h => O_as rfl rfl h
                  (try simp only [PT])
                  refine list_end ?_
                  refine then_norm ?_
                  refine wp_ret ?_
                  refine block_ret ?_
                  refine then_ret ?_
                  refine then_ret ?_
                  refine block_ret ?_
                  refine then_ret ?_
                  have hq4 := Option.some.inj hq4
                  subst hq4
                  (try dsimp only at hm)
                  have hm := Option.some.inj hm
                  subst hm
                  exact ret1 rfl (rv_tmp rfl) rfl ⟨rfl, H⟩
                · have hc3 := hc
                  clear hc
                  replace hq4 := ifF hc3 hq4
                  refine wp_skip ?_
                  refine block_norm ?_
                  refine then_norm ?_
                  refine wp_region_lit ?_
                  apply seq_op (V := .int .i64 (IntKind.i64.wrap ((k4 : Int) + 1))) rfl
                  · exact fun _ h => O_bin rfl rfl rfl eqg_int r_add h
                  (try simp only [PT])
                  apply seq_op (V := .int .i64 (IntKind.i64.wrap ((k4 : Int) + 1))) rfl
                  · exact fun _ h => O_mv rfl rfl h
                  (try simp only [PT])
                  refine list_end ?_
                  refine then_norm ?_
                  refine ⟨⟨⟨rfl, rfl, rfl, rfl, rfl, rfl, rfl, rfl, rfl, rfl, rfl, rfl, rfl, rfl, rfl, rfl, rfl, rfl, rfl, rfl, rfl, rfl, rfl⟩, rfl⟩, ⟨k4 + 1, r4', hd4'', wrap_succ hl4 hn4, hq4, H⟩, ?_⟩
                  exact meas_succ hl4 hn4
            · replace hq4 := ifF hg3 hq4
              obtain ⟨kk5, gk5, gl5, gd5⟩ := btI_some gx2
              obtain ⟨kk6, gk6, gl6, gd6⟩ := btI_some gx2
              rcases Bool.eq_false_or_eq_true (decide (u2 > 122)) with hg4 | hg4
              · replace hq4 := ifT hg4 hq4
                obtain ⟨kk7, gk7, gl7, gd7⟩ := btI_some gx2
                obtain ⟨kk8, gk8, gl8, gd8⟩ := btI_some gx2
                obtain ⟨kk9, gk9, gl9, gd9⟩ := btI_some gx2
                rcases Bool.eq_false_or_eq_true (decide (u2 < 48)) with hg5 | hg5
                · replace hq4 := ifT hg5 hq4
                  obtain ⟨kk10, gk10, gl10, gd10⟩ := btI_some gx2
                  obtain ⟨kk11, gk11, gl11, gd11⟩ := btI_some gx2
                  obtain ⟨kk12, gk12, gl12, gd12⟩ := btI_some gx2
                  refine wp_region_lit ?_
                  apply seq_op (V := .string a0) rfl
                  · exact fun _ h => O_mv rfl rfl h
                  (try simp only [PT])
                  apply seq_op (V := .int .i64 (k4 : Int)) rfl
                  · exact fun _ h => O_mv rfl rfl h
                  (try simp only [PT])
                  apply seq_op (V := .int .u8 u2) rfl
                  · exact fun _ h => O_sidx rfl Tryd.underlying9 rfl rfl gk10 gl10 gd10 h
                  (try simp only [PT])
                  apply seq_op (V := .bool (decide (u2 < 97))) rfl
                  · exact fun _ h => O_bin rfl rfl rfl eqg_int r_lss h
                  (try simp only [PT])
                  apply seq_op (V := .bool (decide (u2 < 97))) rfl
                  · exact fun _ h => O_mv rfl rfl h
                  (try simp only [PT])
                  refine seq_opw (V := .string a0) ((wanted_f rfl rfl rfl).trans (congrArg not hg3)) ?_ ?_
                  · exact fun _ h => O_mv rfl rfl h
                  (try simp only [PT])
                  refine seq_opw (V := .int .i64 (k4 : Int)) ((wanted_f rfl rfl rfl).trans (congrArg not hg3)) ?_ ?_
                  · exact fun _ h => O_mv rfl rfl h
                  (try simp only [PT])
                  refine seq_opw (V := .int .u8 u2) ((wanted_f rfl rfl rfl).trans (congrArg not hg3)) ?_ ?_
                  · exact fun _ h => O_sidx rfl Tryd.underlying9 rfl rfl gk11 gl11 gd11 h
                  (try simp only [PT])
                  refine seq_opw (V := .bool (decide (u2 > 122))) ((wanted_f rfl rfl rfl).trans (congrArg not hg3)) ?_ ?_
                  · exact fun _ h => O_bin rfl rfl rfl eqg_int r_gtr h
                  (try simp only [PT])
                  apply seq_op (V := .bool (decide (u2 > 122))) rfl
                  · exact fun _ h => O_pickF rfl rfl hg3 rfl h
                  (try simp only [PT])
                  apply seq_op (V := .bool (decide (u2 > 122))) rfl
                  · exact fun _ h => O_mv rfl rfl h
                  (try simp only [PT])
                  refine seq_opw (V := .string a0) ((wanted_t rfl rfl rfl).trans hg4) ?_ ?_
                  · exact fun _ h => O_mv rfl rfl h
                  (try simp only [PT])
                  refine seq_opw (V := .int .i64 (k4 : Int)) ((wanted_t rfl rfl rfl).trans hg4) ?_ ?_
                  · exact fun _ h => O_mv rfl rfl h
                  (try simp only [PT])
                  refine seq_opw (V := .int .u8 u2) ((wanted_t rfl rfl rfl).trans hg4) ?_ ?_
                  · exact fun _ h => O_sidx rfl Tryd.underlying9 rfl rfl gk12 gl12 gd12 h
                  (try simp only [PT])
                  refine seq_opw (V := .bool (decide (u2 < 48))) ((wanted_t rfl rfl rfl).trans hg4) ?_ ?_
                  · exact fun _ h => O_bin rfl rfl rfl eqg_int r_lss h
                  (try simp only [PT])
                  refine seq_opw (V := .bool (decide (u2 < 48))) ((wanted_t rfl rfl rfl).trans hg4) ?_ ?_
                  · exact fun _ h => O_mv rfl rfl h
                  (try simp only [PT])
                  refine seq_skip ((wanted_f rfl rfl rfl).trans (congrArg not hg5)) ?_
                  (try simp only [PT])
                  refine seq_skip ((wanted_f rfl rfl rfl).trans (congrArg not hg5)) ?_
                  (try simp only [PT])
                  refine seq_skip ((wanted_f rfl rfl rfl).trans (congrArg not hg5)) ?_
                  (try simp only [PT])
                  refine seq_skip ((wanted_f rfl rfl rfl).trans (congrArg not hg5)) ?_
                  (try simp only [PT])
                  refine seq_opw (V := .bool true) ((wanted_t rfl rfl rfl).trans hg4) ?_ ?_
                  · exact fun _ h => O_pickT rfl rfl hg5 rfl h
                  (try simp only [PT])
                  apply seq_op (V := .bool true) rfl
                  · exact fun _ h => O_pickT rfl rfl hg4 rfl h
                  (try simp only [PT])
                  refine list_end ?_
                  refine then_norm ?_
                  refine wp_cond_true rfl ?_
                  refine wp_seq ?_
                  refine wp_region_lit ?_
                  apply seq_op (V := .bool false) rfl
                  · exact fun _ h => O_as rfl rfl h
                  (try simp only [PT])
                  refine list_end ?_
                  refine then_norm ?_
                  refine wp_ret ?_
                  refine block_ret ?_
                  refine then_ret ?_
                  refine then_ret ?_
                  refine block_ret ?_
                  refine then_ret ?_
                  have hq4 := Option.some.inj hq4
                  subst hq4
                  (try dsimp only at hm)
                  have hm := Option.some.inj hm
                  subst hm
                  exact ret1 rfl (rv_tmp rfl) rfl ⟨rfl, H⟩
                · replace hq4 := ifF hg5 hq4
                  obtain ⟨kk10, gk10, gl10, gd10⟩ := btI_some gx2
                  obtain ⟨kk11, gk11, gl11, gd11⟩ := btI_some gx2
                  obtain ⟨kk12, gk12, gl12, gd12⟩ := btI_some gx2
                  obtain ⟨kk13, gk13, gl13, gd13⟩ := btI_some gx2
                  refine wp_region_lit ?_
                  apply seq_op (V := .string a0) rfl
                  · exact fun _ h => O_mv rfl rfl h
                  (try simp only [PT])
                  apply seq_op (V := .int .i64 (k4 : Int)) rfl
                  · exact fun _ h => O_mv rfl rfl h
                  (try simp only [PT])
                  apply seq_op (V := .int .u8 u2) rfl
                  · exact fun _ h => O_sidx rfl Tryd.underlying9 rfl rfl gk10 gl10 gd10 h
                  (try simp only [PT])
                  apply seq_op (V := .bool (decide (u2 < 97))) rfl
                  · exact fun _ h => O_bin rfl rfl rfl eqg_int r_lss h
                  (try simp only [PT])
                  apply seq_op (V := .bool (decide (u2 < 97))) rfl
                  · exact fun _ h => O_mv rfl rfl h
                  (try simp only [PT])
                  refine seq_opw (V := .string a0) ((wanted_f rfl rfl rfl).trans (congrArg not hg3)) ?_ ?_
                  · exact fun _ h => O_mv rfl rfl h
                  (try simp only [PT])
                  refine seq_opw (V := .int .i64 (k4 : Int)) ((wanted_f rfl rfl rfl).trans (congrArg not hg3)) ?_ ?_
                  · exact fun _ h => O_mv rfl rfl h
                  (try simp only [PT])
                  refine seq_opw (V := .int .u8 u2) ((wanted_f rfl rfl rfl).trans (congrArg not hg3)) ?_ ?_
                  · exact fun _ h => O_sidx rfl Tryd.underlying9 rfl rfl gk11 gl11 gd11 h
                  (try simp only [PT])
                  refine seq_opw (V := .bool (decide (u2 > 122))) ((wanted_f rfl rfl rfl).trans (congrArg not hg3)) ?_ ?_
                  · exact fun _ h => O_bin rfl rfl rfl eqg_int r_gtr h
                  (try simp only [PT])
                  apply seq_op (V := .bool (decide (u2 > 122))) rfl
                  · exact fun _ h => O_pickF rfl rfl hg3 rfl h
                  (try simp only [PT])
                  apply seq_op (V := .bool (decide (u2 > 122))) rfl
                  · exact fun _ h => O_mv rfl rfl h
                  (try simp only [PT])
                  refine seq_opw (V := .string a0) ((wanted_t rfl rfl rfl).trans hg4) ?_ ?_
                  · exact fun _ h => O_mv rfl rfl h
                  (try simp only [PT])
                  refine seq_opw (V := .int .i64 (k4 : Int)) ((wanted_t rfl rfl rfl).trans hg4) ?_ ?_
                  · exact fun _ h => O_mv rfl rfl h
                  (try simp only [PT])
                  refine seq_opw (V := .int .u8 u2) ((wanted_t rfl rfl rfl).trans hg4) ?_ ?_
                  · exact fun _ h => O_sidx rfl Tryd.underlying9 rfl rfl gk12 gl12 gd12 h
                  (try simp only [PT])
                  refine seq_opw (V := .bool (decide (u2 < 48))) ((wanted_t rfl rfl rfl).trans hg4) ?_ ?_
                  · exact fun _ h => O_bin rfl rfl rfl eqg_int r_lss h
                  (try simp only [PT])
                  refine seq_opw (V := .bool (decide (u2 < 48))) ((wanted_t rfl rfl rfl).trans hg4) ?_ ?_
                  · exact fun _ h => O_mv rfl rfl h
                  (try simp only [PT])
                  refine seq_opw (V := .string a0) ((wanted_f rfl rfl rfl).trans (congrArg not hg5)) ?_ ?_
                  · exact fun _ h => O_mv rfl rfl h
                  (try simp only [PT])
                  refine seq_opw (V := .int .i64 (k4 : Int)) ((wanted_f rfl rfl rfl).trans (congrArg not hg5)) ?_ ?_
                  · exact fun _ h => O_mv rfl rfl h
                  (try simp only [PT])
                  refine seq_opw (V := .int .u8 u2) ((wanted_f rfl rfl rfl).trans (congrArg not hg5)) ?_ ?_
                  · exact fun _ h => O_sidx rfl Tryd.underlying9 rfl rfl gk13 gl13 gd13 h
                  (try simp only [PT])
                  refine seq_opw (V := .bool (decide (u2 > 57))) ((wanted_f rfl rfl rfl).trans (congrArg not hg5)) ?_ ?_
                  · exact fun _ h => O_bin rfl rfl rfl eqg_int r_gtr h
                  (try simp only [PT])
                  refine seq_opw (V := .bool (decide (u2 > 57))) ((wanted_t rfl rfl rfl).trans hg4) ?_ ?_
                  · exact fun _ h => O_pickF rfl rfl hg5 rfl h
                  (try simp only [PT])
                  apply seq_op (V := .bool (decide (u2 > 57))) rfl
                  · exact fun _ h => O_pickT rfl rfl hg4 rfl h
                  (try simp only [PT])
                  refine list_end ?_
                  refine then_norm ?_
                  refine wp_cond_split rfl (fun hc => ?_) (fun hc => ?_)
                  · have hc3 := hc
                    clear hc
                    replace hq4 := ifT hc3 hq4
                    refine wp_seq ?_
                    refine wp_region_lit ?_
                    apply seq_op (V := .bool false) rfl
                    · exact fun _ h => O_as rfl rfl h
                    (try simp only [PT])
                    refine list_end ?_
                    refine then_norm ?_
                    refine wp_ret ?_
                    refine block_ret ?_
                    refine then_ret ?_
                    refine then_ret ?_
                    refine block_ret ?_
                    refine then_ret ?_
                    have hq4 := Option.some.inj hq4
                    subst hq4
                    (try dsimp only at hm)
                    have hm := Option.some.inj hm
                    subst hm
                    exact ret1 rfl (rv_tmp rfl) rfl ⟨rfl, H⟩
                  · have hc3 := hc
                    clear hc
                    replace hq4 := ifF hc3 hq4
                    refine wp_skip ?_
                    refine block_norm ?_
                    refine then_norm ?_
                    refine wp_region_lit ?_
                    apply seq_op (V := .int .i64 (IntKind.i64.wrap ((k4 : Int) + 1))) rfl
                    · exact fun _ h => O_bin rfl rfl rfl eqg_int r_add h
                    (try simp only [PT])
                    apply seq_op (V := .int .i64 (IntKind.i64.wrap ((k4 : Int) + 1))) rfl
                    · exact fun _ h => O_mv rfl rfl h
                    (try simp only [PT])
                    refine list_end ?_
                    refine then_norm ?_
                    refine ⟨⟨⟨rfl, rfl, rfl, rfl, rfl, rfl, rfl, rfl, rfl, rfl, rfl, rfl, rfl, rfl, rfl, rfl, rfl, rfl, rfl, rfl, rfl, rfl, rfl⟩, rfl⟩, ⟨k4 + 1, r4', hd4'', wrap_succ hl4 hn4, hq4, H⟩, ?_⟩
                    exact meas_succ hl4 hn4
              · replace hq4 := ifF hg4 hq4
                obtain ⟨kk7, gk7, gl7, gd7⟩ := btI_some gx2
                obtain ⟨kk8, gk8, gl8, gd8⟩ := btI_some gx2
                refine wp_region_lit ?_
                apply seq_op (V := .string a0) rfl
                · exact fun _ h => O_mv rfl rfl h
                (try simp only [PT])
                apply seq_op (V := .int .i64 (k4 : Int)) rfl
                · exact fun _ h => O_mv rfl rfl h
                (try simp only [PT])
                apply seq_op (V := .int .u8 u2) rfl
                · exact fun _ h => O_sidx rfl Tryd.underlying9 rfl rfl gk7 gl7 gd7 h
                (try simp only [PT])
                apply seq_op (V := .bool (decide (u2 < 97))) rfl
                · exact fun _ h => O_bin rfl rfl rfl eqg_int r_lss h
                (try simp only [PT])
                apply seq_op (V := .bool (decide (u2 < 97))) rfl
                · exact fun _ h => O_mv rfl rfl h
                (try simp only [PT])
                refine seq_opw (V := .string a0) ((wanted_f rfl rfl rfl).trans (congrArg not hg3)) ?_ ?_
                · exact fun _ h => O_mv rfl rfl h
                (try simp only [PT])
                refine seq_opw (V := .int .i64 (k4 : Int)) ((wanted_f rfl rfl rfl).trans (congrArg not hg3)) ?_ ?_
                · exact fun _ h => O_mv rfl rfl h
                (try simp only [PT])
                refine seq_opw (V := .int .u8 u2) ((wanted_f rfl rfl rfl).trans (congrArg not hg3)) ?_ ?_
                · exact fun _ h => O_sidx rfl Tryd.underlying9 rfl rfl gk8 gl8 gd8 h
                (try simp only [PT])
                refine seq_opw (V := .bool (decide (u2 > 122))) ((wanted_f rfl rfl rfl).trans (congrArg not hg3)) ?_ ?_
                · exact fun _ h => O_bin rfl rfl rfl eqg_int r_gtr h
                (try simp only [PT])
                apply seq_op (V := .bool (decide (u2 > 122))) rfl
                · exact fun _ h => O_pickF rfl rfl hg3 rfl h
                (try simp only [PT])
                apply seq_op (V := .bool (decide (u2 > 122))) rfl
                · exact fun _ h => O_mv rfl rfl h
                (try simp only [PT])
                refine seq_skip ((wanted_t rfl rfl rfl).trans hg4) ?_
                (try simp only [PT])
                refine seq_skip ((wanted_t rfl rfl rfl).trans hg4) ?_
                (try simp only [PT])
                refine seq_skip ((wanted_t rfl rfl rfl).trans hg4) ?_
                (try simp only [PT])
                refine seq_skip ((wanted_t rfl rfl rfl).trans hg4) ?_
                (try simp only [PT])
                refine seq_skip ((wanted_t rfl rfl rfl).trans hg4) ?_
                (try simp only [PT])
                refine seq_skip (wanted_u rfl rfl rfl) ?_
                (try simp only [PT])
                refine seq_skip (wanted_u rfl rfl rfl) ?_
                (try simp only [PT])
                refine seq_skip (wanted_u rfl rfl rfl) ?_
                (try simp only [PT])
                refine seq_skip (wanted_u rfl rfl rfl) ?_
                (try simp only [PT])
                refine seq_skip ((wanted_t rfl rfl rfl).trans hg4) ?_
                (try simp only [PT])
                apply seq_op (V := .bool false) rfl
                · exact fun _ h => O_pickF rfl rfl hg4 rfl h
                (try simp only [PT])
                refine list_end ?_
                refine then_norm ?_
                refine wp_cond_false rfl ?_
                refine wp_skip ?_
                refine block_norm ?_
                refine then_norm ?_
                refine wp_region_lit ?_
                apply seq_op (V := .int .i64 (IntKind.i64.wrap ((k4 : Int) + 1))) rfl
                · exact fun _ h => O_bin rfl rfl rfl eqg_int r_add h
                (try simp only [PT])
                apply seq_op (V := .int .i64 (IntKind.i64.wrap ((k4 : Int) + 1))) rfl
                · exact fun _ h => O_mv rfl rfl h
                (try simp only [PT])
                refine list_end ?_
                refine then_norm ?_
                refine ⟨⟨⟨rfl, rfl, rfl, rfl, rfl, rfl, rfl, rfl, rfl, rfl, rfl, rfl, rfl, rfl, rfl, rfl, rfl, rfl, rfl, rfl, rfl, rfl, rfl⟩, rfl⟩, ⟨k4 + 1, r4', hd4'', wrap_succ hl4 hn4, hq4, H⟩, ?_⟩
                exact meas_succ hl4 hn4
          · have hc2 := hc
            clear hc
            obtain rfl := irng_f hd4 hc2
            rw [histtext_isKey_l4] at hq4
            refine wp_exit ?_
            refine then_exit ?_
            refine then_exit ?_
            have hq4 := Option.some.inj hq4
            subst hq4
            (try dsimp only at hm)
            refine block_exit ?_
            refine then_norm ?_
            refine wp_seq ?_
            refine wp_region_lit ?_
            apply seq_op (V := .bool true) rfl
            · exact fun _ h => O_as rfl rfl h
            (try simp only [PT])
            refine list_end ?_
            refine then_norm ?_
            refine wp_ret ?_
            have hm := Option.some.inj hm
            subst hm
            exact ret1 rfl (rv_tmp rfl) rfl ⟨rfl, H⟩
def histtext_CanOp_f (a0 : Op') : Option Bool := (histtext_isKey_f a0.key).bind fun u1 => if (!u1) = true then (some false) else (if (a0.kind == 1) = true then (some ((((a0.list.length : Int) == 0) && (!a0.has)) && (!a0.isNil))) else (if (a0.kind == 3) = true then (some ((((a0.list.length : Int) == 0) && (!a0.has)) && (!a0.isNil))) else (if (a0.kind == 2) = true then (some ((((a0.value == 0) && (!a0.isNil)) && (decide ((a0.list.length : Int) ≤ 40))) && (a0.has || ((a0.list.length : Int) == 0)))) else (if (a0.kind == 4) = true then (some ((((a0.list.length : Int) == 0) && (a0.has || (!a0.isNil))) && ((a0.value == 0) || (a0.has && (!a0.isNil))))) else (some false)))))

set_option maxHeartbeats 4000000 in
theorem histtext_CanOp_w {E : World} {s : SH} {L : List HP} {w : World} {a0 : Op'} {A_p0_list : Option Addr} {c_p0_list : Nat} (h_p0_list : kI.Sl s (.slice A_p0_list a0.list.length c_p0_list) a0.list) (hz_p0_key : a0.key.size ≤ 140737488351232) {R : Bool} (hm : histtext_CanOp_f a0 = some R) (H : Holds E s (L) w) :
    Calls Tryd.prog 150 #[.agg #[.int .i64 a0.kind, .string a0.key, .int .i64 a0.value, .slice A_p0_list a0.list.length c_p0_list, .bool a0.has, .bool a0.isNil]] w fun e w' => e = .returned (.bool R) ∧ Holds E s (L) w' := by
  unfold histtext_CanOp_f at hm
  go_enter Tryd.func150, Tryd.ntmps150
  refine wp_seq ?_
  refine wp_region_lit ?_
  refine OpG.list rfl ?_; refine B_x 108 _ rfl (v := .agg #[.int .i64 a0.kind, .string a0.key, .int .i64 a0.value, .slice A_p0_list a0.list.length c_p0_list, .bool a0.has, .bool a0.isNil]) rfl H ?_; clear H; intro b1 w1 H; (try simp only [Value.cells] at H)
  (try simp only [PT])
  apply seq_op (V := .bool false) rfl
  · exact fun _ h => O_as rfl rfl h
  (try simp only [PT])
  refine list_end ?_
  refine then_norm ?_
  refine wp_seq ?_
  refine wp_block ?_
  refine wp_seq ?_
  obtain ⟨u1, gx1, hm⟩ := bs hm
  refine wp_region_lit ?_
  apply seq_op (V := .pointer (some ⟨b1, 1, none⟩)) rfl
  · exact fun _ h => O_fld rfl Tryd.underlying108 rfl (Tryd.sizeOf9 _) rfl h
  (try simp only [PT])
  apply seq_op (V := .string a0.key) rfl
  · exact fun _ h => L_1 0 _ _ rfl (Tryd.isAgg9 _) rfl H rfl rfl h
  (try simp only [PT])
  refine seq_call rfl (fun Φ hΦ => by refine O_call1 rfl Tryd.func172 rfl rfl rfl hΦ) (histtext_isKey_w (a0 := a0.key) (hz_p0 := hz_p0_key) (hm := gx1) (H := H)) ?_
  clear H
  rintro e w1 ⟨rfl, H⟩; refine ⟨_, rfl, ?_⟩
  (try simp only [PT])
  apply seq_op (V := .bool (!u1)) rfl
  · exact fun _ h => O_not rfl rfl h
  (try simp only [PT])
  apply seq_op (V := .bool (!u1)) rfl
  · exact fun _ h => O_as rfl rfl h
  (try simp only [PT])
  refine list_end ?_
  refine then_norm ?_
  refine wp_cond_split rfl (fun hc => ?_) (fun hc => ?_)
  · have hc1 := hc
    clear hc
    replace hm := ifT hc1 hm
    refine wp_seq ?_
    refine wp_region_lit ?_
    apply seq_op (V := .bool false) rfl
    · exact fun _ h => O_as rfl rfl h
    (try simp only [PT])
    refine list_end ?_
    refine then_norm ?_
    refine wp_ret ?_
    refine block_ret ?_
    refine then_ret ?_
    have hm := Option.some.inj hm
    subst hm
    replace H := H.dropAt 0 rfl; simp only [List.eraseIdx_cons_succ, List.eraseIdx_cons_zero] at H
    exact ret1 rfl (rv_tmp rfl) rfl ⟨rfl, H⟩
  · have hc1 := hc
    clear hc
    replace hm := ifF hc1 hm
    refine wp_seq ?_
    refine wp_seq ?_
    refine wp_region_lit ?_
    apply seq_op (V := .pointer (some ⟨b1, 0, none⟩)) rfl
    · exact fun _ h => O_fld rfl Tryd.underlying108 rfl (Tryd.sizeOf3 _) rfl h
    (try simp only [PT])
    apply seq_op (V := .int .i64 a0.kind) rfl
    · exact fun _ h => L_1 0 _ _ rfl (Tryd.isAgg3 _) rfl H rfl rfl h
    (try simp only [PT])
    apply seq_op (V := .bool (a0.kind == 1)) rfl
    · exact fun _ h => O_bin rfl rfl rfl eqg_int r_eql h
    (try simp only [PT])
    apply seq_op (V := .bool (a0.kind == 1)) rfl
    · exact fun _ h => O_as rfl rfl h
    (try simp only [PT])
    refine list_end ?_
    refine then_norm ?_
    refine wp_cond_split rfl (fun hc => ?_) (fun hc => ?_)
    · have hc2 := hc
      clear hc
      replace hm := ifT hc2 hm
      refine wp_skip ?_
      refine then_norm ?_
      refine wp_cond_true (congrArg Value.bool hc2) ?_
      refine wp_seq ?_
      refine wp_region_lit ?_
      apply seq_op (V := .pointer (some ⟨b1, 3, none⟩)) rfl
      · exact fun _ h => O_fld rfl Tryd.underlying108 rfl (Tryd.sizeOf27 _) rfl h
      (try simp only [PT])
      apply seq_op (V := .slice A_p0_list a0.list.length c_p0_list) rfl
      · exact fun _ h => L_1 0 _ _ rfl (Tryd.isAgg27 _) rfl H rfl rfl h
      (try simp only [PT])
      apply seq_op (V := .int .i64 (a0.list.length : Int)) rfl
      · exact fun _ h => O_len rfl Tryd.underlying27 rfl h
      (try simp only [PT])
      apply seq_op (V := .bool ((a0.list.length : Int) == 0)) rfl
      · exact fun _ h => O_bin rfl rfl rfl eqg_int r_eql h
      (try simp only [PT])
      apply seq_op (V := .bool ((a0.list.length : Int) == 0)) rfl
      · exact fun _ h => O_mv rfl rfl h
      (try simp only [PT])
      refine seq_opg (c := ((a0.list.length : Int) == 0)) (V := .pointer (some ⟨b1, 4, none⟩)) (by first | exact wanted_t rfl rfl rfl | exact wanted_vt rfl rfl rfl) ?_ ?_
      · intro hc Φ hΦ; refine O_fld rfl Tryd.underlying108 rfl (Tryd.sizeOf4 _) rfl ?_; exact hΦ
      (try simp only [PT])
      refine seq_opg (c := ((a0.list.length : Int) == 0)) (V := .bool a0.has) (by first | exact wanted_t rfl rfl rfl | exact wanted_vt rfl rfl rfl) ?_ ?_
      · intro hc Φ hΦ; (repeat (first | rw [vg_of hc] | rw [vg_of (and_l hc)] | rw [vg_of (and_l (and_l hc))] | rw [vg_of (and_l (and_l (and_l hc)))] | rw [vg_and hc])); refine L_1 0 _ _ rfl (Tryd.isAgg4 _) rfl H rfl rfl ?_; exact hΦ
      (try simp only [PT])
      refine seq_opg (c := ((a0.list.length : Int) == 0)) (V := .bool (!a0.has)) (by first | exact wanted_t rfl rfl rfl | exact wanted_vt rfl rfl rfl) ?_ ?_
      · intro hc Φ hΦ; (repeat (first | rw [vg_of hc] | rw [vg_of (and_l hc)] | rw [vg_of (and_l (and_l hc))] | rw [vg_of (and_l (and_l (and_l hc)))] | rw [vg_and hc])); refine O_not rfl rfl ?_; exact hΦ
      (try simp only [PT])
      apply seq_op (V := .bool (((a0.list.length : Int) == 0) && (!a0.has))) rfl
      · exact fun _ h => G_and _ _ _ rfl rfl rfl rfl h
      (try simp only [PT])
      apply seq_op (V := .bool (((a0.list.length : Int) == 0) && (!a0.has))) rfl
      · exact fun _ h => O_mv rfl rfl h
      (try simp only [PT])
      refine seq_opg (c := (((a0.list.length : Int) == 0) && (!a0.has))) (V := .pointer (some ⟨b1, 5, none⟩)) (by first | exact wanted_t rfl rfl rfl | exact wanted_vt rfl rfl rfl) ?_ ?_
      · intro hc Φ hΦ; refine O_fld rfl Tryd.underlying108 rfl (Tryd.sizeOf4 _) rfl ?_; exact hΦ
      (try simp only [PT])
      refine seq_opg (c := (((a0.list.length : Int) == 0) && (!a0.has))) (V := .bool a0.isNil) (by first | exact wanted_t rfl rfl rfl | exact wanted_vt rfl rfl rfl) ?_ ?_
      · intro hc Φ hΦ; (repeat (first | rw [vg_of hc] | rw [vg_of (and_l hc)] | rw [vg_of (and_l (and_l hc))] | rw [vg_of (and_l (and_l (and_l hc)))] | rw [vg_and hc])); refine L_1 0 _ _ rfl (Tryd.isAgg4 _) rfl H rfl rfl ?_; exact hΦ
      (try simp only [PT])
      refine seq_opg (c := (((a0.list.length : Int) == 0) && (!a0.has))) (V := .bool (!a0.isNil)) (by first | exact wanted_t rfl rfl rfl | exact wanted_vt rfl rfl rfl) ?_ ?_
      · intro hc Φ hΦ; (repeat (first | rw [vg_of hc] | rw [vg_of (and_l hc)] | rw [vg_of (and_l (and_l hc))] | rw [vg_of (and_l (and_l (and_l hc)))] | rw [vg_and hc])); refine O_not rfl rfl ?_; exact hΦ
      (try simp only [PT])
      apply seq_op (V := .bool ((((a0.list.length : Int) == 0) && (!a0.has)) && (!a0.isNil))) rfl
      · exact fun _ h => G_and _ _ _ rfl rfl rfl rfl h
      (try simp only [PT])
      apply seq_op (V := .bool ((((a0.list.length : Int) == 0) && (!a0.has)) && (!a0.isNil))) rfl
      · exact fun _ h => O_as rfl rfl h
      (try simp only [PT])
      refine list_end ?_
      refine then_norm ?_
      refine wp_ret ?_
      refine block_ret ?_
      refine then_ret ?_
      have hm := Option.some.inj hm
      subst hm
      replace H := H.dropAt 0 rfl; simp only [List.eraseIdx_cons_succ, List.eraseIdx_cons_zero] at H
      exact ret1 rfl (rv_tmp rfl) rfl ⟨rfl, H⟩
    · have hc2 := hc
      clear hc
      replace hm := ifF hc2 hm
      refine wp_region_lit ?_
      apply seq_op (V := .pointer (some ⟨b1, 0, none⟩)) rfl
      · exact fun _ h => O_fld rfl Tryd.underlying108 rfl (Tryd.sizeOf3 _) rfl h
      (try simp only [PT])
      apply seq_op (V := .int .i64 a0.kind) rfl
      · exact fun _ h => L_1 0 _ _ rfl (Tryd.isAgg3 _) rfl H rfl rfl h
      (try simp only [PT])
      apply seq_op (V := .bool (a0.kind == 3)) rfl
      · exact fun _ h => O_bin rfl rfl rfl eqg_int r_eql h
      (try simp only [PT])
      apply seq_op (V := .bool (a0.kind == 3)) rfl
      · exact fun _ h => O_as rfl rfl h
      (try simp only [PT])
      refine list_end ?_
      refine then_norm ?_
      refine wp_cond_split rfl (fun hc => ?_) (fun hc => ?_)
      · have hc3 := hc
        clear hc
        replace hm := ifT hc3 hm
        refine wp_seq ?_
        refine wp_region_lit ?_
        apply seq_op (V := .pointer (some ⟨b1, 3, none⟩)) rfl
        · exact fun _ h => O_fld rfl Tryd.underlying108 rfl (Tryd.sizeOf27 _) rfl h
        (try simp only [PT])
        apply seq_op (V := .slice A_p0_list a0.list.length c_p0_list) rfl
        · exact fun _ h => L_1 0 _ _ rfl (Tryd.isAgg27 _) rfl H rfl rfl h
        (try simp only [PT])
        apply seq_op (V := .int .i64 (a0.list.length : Int)) rfl
        · exact fun _ h => O_len rfl Tryd.underlying27 rfl h
        (try simp only [PT])
        apply seq_op (V := .bool ((a0.list.length : Int) == 0)) rfl
        · exact fun _ h => O_bin rfl rfl rfl eqg_int r_eql h
        (try simp only [PT])
        apply seq_op (V := .bool ((a0.list.length : Int) == 0)) rfl
        · exact fun _ h => O_mv rfl rfl h
        (try simp only [PT])
        refine seq_opg (c := ((a0.list.length : Int) == 0)) (V := .pointer (some ⟨b1, 4, none⟩)) (by first | exact wanted_t rfl rfl rfl | exact wanted_vt rfl rfl rfl) ?_ ?_
        · intro hc Φ hΦ; refine O_fld rfl Tryd.underlying108 rfl (Tryd.sizeOf4 _) rfl ?_; exact hΦ
        (try simp only [PT])
        refine seq_opg (c := ((a0.list.length : Int) == 0)) (V := .bool a0.has) (by first | exact wanted_t rfl rfl rfl | exact wanted_vt rfl rfl rfl) ?_ ?_
        · intro hc Φ hΦ; (repeat (first | rw [vg_of hc] | rw [vg_of (and_l hc)] | rw [vg_of (and_l (and_l hc))] | rw [vg_of (and_l (and_l (and_l hc)))] | rw [vg_and hc])); refine L_1 0 _ _ rfl (Tryd.isAgg4 _) rfl H rfl rfl ?_; exact hΦ
        (try simp only [PT])
        refine seq_opg (c := ((a0.list.length : Int) == 0)) (V := .bool (!a0.has)) (by first | exact wanted_t rfl rfl rfl | exact wanted_vt rfl rfl rfl) ?_ ?_
        · intro hc Φ hΦ; (repeat (first | rw [vg_of hc] | rw [vg_of (and_l hc)] | rw [vg_of (and_l (and_l hc))] | rw [vg_of (and_l (and_l (and_l hc)))] | rw [vg_and hc])); refine O_not rfl rfl ?_; exact hΦ
        (try simp only [PT])
        apply seq_op (V := .bool (((a0.list.length : Int) == 0) && (!a0.has))) rfl
        · exact fun _ h => G_and _ _ _ rfl rfl rfl rfl h
        (try simp only [PT])
        apply seq_op (V := .bool (((a0.list.length : Int) == 0) && (!a0.has))) rfl
        · exact fun _ h => O_mv rfl rfl h
        (try simp only [PT])
        refine seq_opg (c := (((a0.list.length : Int) == 0) && (!a0.has))) (V := .pointer (some ⟨b1, 5, none⟩)) (by first | exact wanted_t rfl rfl rfl | exact wanted_vt rfl rfl rfl) ?_ ?_
        · intro hc Φ hΦ; refine O_fld rfl Tryd.underlying108 rfl (Tryd.sizeOf4 _) rfl ?_; exact hΦ
        (try simp only [PT])
        refine seq_opg (c := (((a0.list.length : Int) == 0) && (!a0.has))) (V := .bool a0.isNil) (by first | exact wanted_t rfl rfl rfl | exact wanted_vt rfl rfl rfl) ?_ ?_
        · intro hc Φ hΦ; (repeat (first | rw [vg_of hc] | rw [vg_of (and_l hc)] | rw [vg_of (and_l (and_l hc))] | rw [vg_of (and_l (and_l (and_l hc)))] | rw [vg_and hc])); refine L_1 0 _ _ rfl (Tryd.isAgg4 _) rfl H rfl rfl ?_; exact hΦ
        (try simp only [PT])
        refine seq_opg (c := (((a0.list.length : Int) == 0) && (!a0.has))) (V := .bool (!a0.isNil)) (by first | exact wanted_t rfl rfl rfl | exact wanted_vt rfl rfl rfl) ?_ ?_
        · intro hc Φ hΦ; (repeat (first | rw [vg_of hc] | rw [vg_of (and_l hc)] | rw [vg_of (and_l (and_l hc))] | rw [vg_of (and_l (and_l (and_l hc)))] | rw [vg_and hc])); refine O_not rfl rfl ?_; exact hΦ
        (try simp only [PT])
        apply seq_op (V := .bool ((((a0.list.length : Int) == 0) && (!a0.has)) && (!a0.isNil))) rfl
        · exact fun _ h => G_and _ _ _ rfl rfl rfl rfl h
        (try simp only [PT])
        apply seq_op (V := .bool ((((a0.list.length : Int) == 0) && (!a0.has)) && (!a0.isNil))) rfl
        · exact fun _ h => O_as rfl rfl h
        (try simp only [PT])
        refine list_end ?_
        refine then_norm ?_
        refine wp_ret ?_
        refine block_ret ?_
        refine then_ret ?_
        have hm := Option.some.inj hm
        subst hm
        replace H := H.dropAt 0 rfl; simp only [List.eraseIdx_cons_succ, List.eraseIdx_cons_zero] at H
        exact ret1 rfl (rv_tmp rfl) rfl ⟨rfl, H⟩
      · have hc3 := hc
        clear hc
        replace hm := ifF hc3 hm
        refine wp_seq ?_
        refine wp_region_lit ?_
        apply seq_op (V := .pointer (some ⟨b1, 0, none⟩)) rfl
        · exact fun _ h => O_fld rfl Tryd.underlying108 rfl (Tryd.sizeOf3 _) rfl h
        (try simp only [PT])
        apply seq_op (V := .int .i64 a0.kind) rfl
        · exact fun _ h => L_1 0 _ _ rfl (Tryd.isAgg3 _) rfl H rfl rfl h
        (try simp only [PT])
        apply seq_op (V := .bool (a0.kind == 2)) rfl
        · exact fun _ h => O_bin rfl rfl rfl eqg_int r_eql h
        (try simp only [PT])
        apply seq_op (V := .bool (a0.kind == 2)) rfl
        · exact fun _ h => O_as rfl rfl h
        (try simp only [PT])
        refine list_end ?_
        refine then_norm ?_
        refine wp_cond_split rfl (fun hc => ?_) (fun hc => ?_)
        · have hc4 := hc
          clear hc
          replace hm := ifT hc4 hm
          refine wp_seq ?_
          refine wp_region_lit ?_
          apply seq_op (V := .pointer (some ⟨b1, 2, none⟩)) rfl
          · exact fun _ h => O_fld rfl Tryd.underlying108 rfl (Tryd.sizeOf3 _) rfl h
          (try simp only [PT])
          apply seq_op (V := .int .i64 a0.value) rfl
          · exact fun _ h => L_1 0 _ _ rfl (Tryd.isAgg3 _) rfl H rfl rfl h
          (try simp only [PT])
          apply seq_op (V := .bool (a0.value == 0)) rfl
          · exact fun _ h => O_bin rfl rfl rfl eqg_int r_eql h
          (try simp only [PT])
          apply seq_op (V := .bool (a0.value == 0)) rfl
          · exact fun _ h => O_mv rfl rfl h
          (try simp only [PT])
          refine seq_opg (c := (a0.value == 0)) (V := .pointer (some ⟨b1, 5, none⟩)) (by first | exact wanted_t rfl rfl rfl | exact wanted_vt rfl rfl rfl) ?_ ?_
          · intro hc Φ hΦ; refine O_fld rfl Tryd.underlying108 rfl (Tryd.sizeOf4 _) rfl ?_; exact hΦ
          (try simp only [PT])
          refine seq_opg (c := (a0.value == 0)) (V := .bool a0.isNil) (by first | exact wanted_t rfl rfl rfl | exact wanted_vt rfl rfl rfl) ?_ ?_
          · intro hc Φ hΦ; (repeat (first | rw [vg_of hc] | rw [vg_of (and_l hc)] | rw [vg_of (and_l (and_l hc))] | rw [vg_of (and_l (and_l (and_l hc)))] | rw [vg_and hc])); refine L_1 0 _ _ rfl (Tryd.isAgg4 _) rfl H rfl rfl ?_; exact hΦ
          (try simp only [PT])
          refine seq_opg (c := (a0.value == 0)) (V := .bool (!a0.isNil)) (by first | exact wanted_t rfl rfl rfl | exact wanted_vt rfl rfl rfl) ?_ ?_
          · intro hc Φ hΦ; (repeat (first | rw [vg_of hc] | rw [vg_of (and_l hc)] | rw [vg_of (and_l (and_l hc))] | rw [vg_of (and_l (and_l (and_l hc)))] | rw [vg_and hc])); refine O_not rfl rfl ?_; exact hΦ
          (try simp only [PT])
          apply seq_op (V := .bool ((a0.value == 0) && (!a0.isNil))) rfl
          · exact fun _ h => G_and _ _ _ rfl rfl rfl rfl h
          (try simp only [PT])
          apply seq_op (V := .bool ((a0.value == 0) && (!a0.isNil))) rfl
          · exact fun _ h => O_mv rfl rfl h
          (try simp only [PT])
          refine seq_opg (c := ((a0.value == 0) && (!a0.isNil))) (V := .pointer (some ⟨b1, 3, none⟩)) (by first | exact wanted_t rfl rfl rfl | exact wanted_vt rfl rfl rfl) ?_ ?_
          · intro hc Φ hΦ; refine O_fld rfl Tryd.underlying108 rfl (Tryd.sizeOf27 _) rfl ?_; exact hΦ
          (try simp only [PT])
          refine seq_opg (c := ((a0.value == 0) && (!a0.isNil))) (V := .slice A_p0_list a0.list.length c_p0_list) (by first | exact wanted_t rfl rfl rfl | exact wanted_vt rfl rfl rfl) ?_ ?_
          · intro hc Φ hΦ; (repeat (first | rw [vg_of hc] | rw [vg_of (and_l hc)] | rw [vg_of (and_l (and_l hc))] | rw [vg_of (and_l (and_l (and_l hc)))] | rw [vg_and hc])); refine L_1 0 _ _ rfl (Tryd.isAgg27 _) rfl H rfl rfl ?_; exact hΦ
          (try simp only [PT])
          refine seq_opg (c := ((a0.value == 0) && (!a0.isNil))) (V := .int .i64 (a0.list.length : Int)) (by first | exact wanted_t rfl rfl rfl | exact wanted_vt rfl rfl rfl) ?_ ?_
          · intro hc Φ hΦ; (repeat (first | rw [vg_of hc] | rw [vg_of (and_l hc)] | rw [vg_of (and_l (and_l hc))] | rw [vg_of (and_l (and_l (and_l hc)))] | rw [vg_and hc])); refine O_len rfl Tryd.underlying27 rfl ?_; exact hΦ
          (try simp only [PT])
          refine seq_opg (c := ((a0.value == 0) && (!a0.isNil))) (V := .bool (decide ((a0.list.length : Int) ≤ 40))) (by first | exact wanted_t rfl rfl rfl | exact wanted_vt rfl rfl rfl) ?_ ?_
          · intro hc Φ hΦ; (repeat (first | rw [vg_of hc] | rw [vg_of (and_l hc)] | rw [vg_of (and_l (and_l hc))] | rw [vg_of (and_l (and_l (and_l hc)))] | rw [vg_and hc])); refine O_bin rfl rfl rfl eqg_int r_leq ?_; exact hΦ
          (try simp only [PT])
          apply seq_op (V := .bool (((a0.value == 0) && (!a0.isNil)) && (decide ((a0.list.length : Int) ≤ 40)))) rfl
          · exact fun _ h => G_and _ _ _ rfl rfl rfl rfl h
          (try simp only [PT])
          apply seq_op (V := .bool (((a0.value == 0) && (!a0.isNil)) && (decide ((a0.list.length : Int) ≤ 40)))) rfl
          · exact fun _ h => O_mv rfl rfl h
          (try simp only [PT])
          refine seq_opg (c := (((a0.value == 0) && (!a0.isNil)) && (decide ((a0.list.length : Int) ≤ 40)))) (V := .pointer (some ⟨b1, 4, none⟩)) (by first | exact wanted_t rfl rfl rfl | exact wanted_vt rfl rfl rfl) ?_ ?_
          · intro hc Φ hΦ; refine O_fld rfl Tryd.underlying108 rfl (Tryd.sizeOf4 _) rfl ?_; exact hΦ
          (try simp only [PT])
          refine seq_opg (c := (((a0.value == 0) && (!a0.isNil)) && (decide ((a0.list.length : Int) ≤ 40)))) (V := .bool a0.has) (by first | exact wanted_t rfl rfl rfl | exact wanted_vt rfl rfl rfl) ?_ ?_
          · intro hc Φ hΦ; (repeat (first | rw [vg_of hc] | rw [vg_of (and_l hc)] | rw [vg_of (and_l (and_l hc))] | rw [vg_of (and_l (and_l (and_l hc)))] | rw [vg_and hc])); refine L_1 0 _ _ rfl (Tryd.isAgg4 _) rfl H rfl rfl ?_; exact hΦ
          (try simp only [PT])
          refine seq_opg (c := (((a0.value == 0) && (!a0.isNil)) && (decide ((a0.list.length : Int) ≤ 40)))) (V := .bool a0.has) (by first | exact wanted_t rfl rfl rfl | exact wanted_vt rfl rfl rfl) ?_ ?_
          · intro hc Φ hΦ; (repeat (first | rw [vg_of hc] | rw [vg_of (and_l hc)] | rw [vg_of (and_l (and_l hc))] | rw [vg_of (and_l (and_l (and_l hc)))] | rw [vg_and hc])); refine O_mv rfl rfl ?_; exact hΦ
          (try simp only [PT])
          refine seq_opg (c := ((((a0.value == 0) && (!a0.isNil)) && (decide ((a0.list.length : Int) ≤ 40))) && !a0.has)) (V := .pointer (some ⟨b1, 3, none⟩)) (by first | exact wanted_f rfl rfl rfl | exact wanted_vf rfl rfl rfl) ?_ ?_
          · intro hc Φ hΦ; refine O_fld rfl Tryd.underlying108 rfl (Tryd.sizeOf27 _) rfl ?_; exact hΦ
          (try simp only [PT])
          refine seq_opg (c := ((((a0.value == 0) && (!a0.isNil)) && (decide ((a0.list.length : Int) ≤ 40))) && !a0.has)) (V := .slice A_p0_list a0.list.length c_p0_list) (by first | exact wanted_f rfl rfl rfl | exact wanted_vf rfl rfl rfl) ?_ ?_
          · intro hc Φ hΦ; (repeat (first | rw [vg_of hc] | rw [vg_of (and_l hc)] | rw [vg_of (and_l (and_l hc))] | rw [vg_of (and_l (and_l (and_l hc)))] | rw [vg_and hc])); refine L_1 0 _ _ rfl (Tryd.isAgg27 _) rfl H rfl rfl ?_; exact hΦ
          (try simp only [PT])
          refine seq_opg (c := ((((a0.value == 0) && (!a0.isNil)) && (decide ((a0.list.length : Int) ≤ 40))) && !a0.has)) (V := .int .i64 (a0.list.length : Int)) (by first | exact wanted_f rfl rfl rfl | exact wanted_vf rfl rfl rfl) ?_ ?_
          · intro hc Φ hΦ; (repeat (first | rw [vg_of hc] | rw [vg_of (and_l hc)] | rw [vg_of (and_l (and_l hc))] | rw [vg_of (and_l (and_l (and_l hc)))] | rw [vg_and hc])); refine O_len rfl Tryd.underlying27 rfl ?_; exact hΦ
          (try simp only [PT])
          refine seq_opg (c := ((((a0.value == 0) && (!a0.isNil)) && (decide ((a0.list.length : Int) ≤ 40))) && !a0.has)) (V := .bool ((a0.list.length : Int) == 0)) (by first | exact wanted_f rfl rfl rfl | exact wanted_vf rfl rfl rfl) ?_ ?_
          · intro hc Φ hΦ; (repeat (first | rw [vg_of hc] | rw [vg_of (and_l hc)] | rw [vg_of (and_l (and_l hc))] | rw [vg_of (and_l (and_l (and_l hc)))] | rw [vg_and hc])); refine O_bin rfl rfl rfl eqg_int r_eql ?_; exact hΦ
          (try simp only [PT])
          refine seq_opg (c := (((a0.value == 0) && (!a0.isNil)) && (decide ((a0.list.length : Int) ≤ 40)))) (V := .bool (a0.has || ((a0.list.length : Int) == 0))) (by first | exact wanted_t rfl rfl rfl | exact wanted_vt rfl rfl rfl) ?_ ?_
          · intro hc Φ hΦ; (repeat (first | rw [vg_of hc] | rw [vg_of (and_l hc)] | rw [vg_of (and_l (and_l hc))] | rw [vg_of (and_l (and_l (and_l hc)))] | rw [vg_and hc])); refine G_or _ _ _ rfl rfl rfl rfl ?_; exact hΦ
          (try simp only [PT])
          apply seq_op (V := .bool ((((a0.value == 0) && (!a0.isNil)) && (decide ((a0.list.length : Int) ≤ 40))) && (a0.has || ((a0.list.length : Int) == 0)))) rfl
          · exact fun _ h => G_and _ _ _ rfl rfl rfl rfl h
          (try simp only [PT])
          apply seq_op (V := .bool ((((a0.value == 0) && (!a0.isNil)) && (decide ((a0.list.length : Int) ≤ 40))) && (a0.has || ((a0.list.length : Int) == 0)))) rfl
          · exact fun _ h => O_as rfl rfl h
          (try simp only [PT])
          refine list_end ?_
          refine then_norm ?_
          refine wp_ret ?_
          refine block_ret ?_
          refine then_ret ?_
          have hm := Option.some.inj hm
          subst hm
          replace H := H.dropAt 0 rfl; simp only [List.eraseIdx_cons_succ, List.eraseIdx_cons_zero] at H
          exact ret1 rfl (rv_tmp rfl) rfl ⟨rfl, H⟩
        · have hc4 := hc
          clear hc
          replace hm := ifF hc4 hm
          refine wp_seq ?_
          refine wp_region_lit ?_
          apply seq_op (V := .pointer (some ⟨b1, 0, none⟩)) rfl
          · exact fun _ h => O_fld rfl Tryd.underlying108 rfl (Tryd.sizeOf3 _) rfl h
          (try simp only [PT])
          apply seq_op (V := .int .i64 a0.kind) rfl
          · exact fun _ h => L_1 0 _ _ rfl (Tryd.isAgg3 _) rfl H rfl rfl h
          (try simp only [PT])
          apply seq_op (V := .bool (a0.kind == 4)) rfl
          · exact fun _ h => O_bin rfl rfl rfl eqg_int r_eql h
          (try simp only [PT])
          apply seq_op (V := .bool (a0.kind == 4)) rfl
          · exact fun _ h => O_as rfl rfl h
          (try simp only [PT])
          refine list_end ?_
          refine then_norm ?_
          refine wp_cond_split rfl (fun hc => ?_) (fun hc => ?_)
          · have hc5 := hc
            clear hc
            replace hm := ifT hc5 hm
            refine wp_seq ?_
            refine wp_region_lit ?_
            apply seq_op (V := .pointer (some ⟨b1, 3, none⟩)) rfl
            · exact fun _ h => O_fld rfl Tryd.underlying108 rfl (Tryd.sizeOf27 _) rfl h
            (try simp only [PT])
            apply seq_op (V := .slice A_p0_list a0.list.length c_p0_list) rfl
            · exact fun _ h => L_1 0 _ _ rfl (Tryd.isAgg27 _) rfl H rfl rfl h
            (try simp only [PT])
            apply seq_op (V := .int .i64 (a0.list.length : Int)) rfl
            · exact fun _ h => O_len rfl Tryd.underlying27 rfl h
            (try simp only [PT])
            apply seq_op (V := .bool ((a0.list.length : Int) == 0)) rfl
            · exact fun _ h => O_bin rfl rfl rfl eqg_int r_eql h
            (try simp only [PT])
            apply seq_op (V := .bool ((a0.list.length : Int) == 0)) rfl
            · exact fun _ h => O_mv rfl rfl h
            (try simp only [PT])
            refine seq_opg (c := ((a0.list.length : Int) == 0)) (V := .pointer (some ⟨b1, 4, none⟩)) (by first | exact wanted_t rfl rfl rfl | exact wanted_vt rfl rfl rfl) ?_ ?_
            · intro hc Φ hΦ; refine O_fld rfl Tryd.underlying108 rfl (Tryd.sizeOf4 _) rfl ?_; exact hΦ
            (try simp only [PT])
            refine seq_opg (c := ((a0.list.length : Int) == 0)) (V := .bool a0.has) (by first | exact wanted_t rfl rfl rfl | exact wanted_vt rfl rfl rfl) ?_ ?_
            · intro hc Φ hΦ; (repeat (first | rw [vg_of hc] | rw [vg_of (and_l hc)] | rw [vg_of (and_l (and_l hc))] | rw [vg_of (and_l (and_l (and_l hc)))] | rw [vg_and hc])); refine L_1 0 _ _ rfl (Tryd.isAgg4 _) rfl H rfl rfl ?_; exact hΦ
            (try simp only [PT])
            refine seq_opg (c := ((a0.list.length : Int) == 0)) (V := .bool a0.has) (by first | exact wanted_t rfl rfl rfl | exact wanted_vt rfl rfl rfl) ?_ ?_
            · intro hc Φ hΦ; (repeat (first | rw [vg_of hc] | rw [vg_of (and_l hc)] | rw [vg_of (and_l (and_l hc))] | rw [vg_of (and_l (and_l (and_l hc)))] | rw [vg_and hc])); refine O_mv rfl rfl ?_; exact hΦ
            (try simp only [PT])
            refine seq_opg (c := (((a0.list.length : Int) == 0) && !a0.has)) (V := .pointer (some ⟨b1, 5, none⟩)) (by first | exact wanted_f rfl rfl rfl | exact wanted_vf rfl rfl rfl) ?_ ?_
            · intro hc Φ hΦ; refine O_fld rfl Tryd.underlying108 rfl (Tryd.sizeOf4 _) rfl ?_; exact hΦ
            (try simp only [PT])
            refine seq_opg (c := (((a0.list.length : Int) == 0) && !a0.has)) (V := .bool a0.isNil) (by first | exact wanted_f rfl rfl rfl | exact wanted_vf rfl rfl rfl) ?_ ?_
            · intro hc Φ hΦ; (repeat (first | rw [vg_of hc] | rw [vg_of (and_l hc)] | rw [vg_of (and_l (and_l hc))] | rw [vg_of (and_l (and_l (and_l hc)))] | rw [vg_and hc])); refine L_1 0 _ _ rfl (Tryd.isAgg4 _) rfl H rfl rfl ?_; exact hΦ
            (try simp only [PT])
            refine seq_opg (c := (((a0.list.length : Int) == 0) && !a0.has)) (V := .bool (!a0.isNil)) (by first | exact wanted_f rfl rfl rfl | exact wanted_vf rfl rfl rfl) ?_ ?_
            · intro hc Φ hΦ; (repeat (first | rw [vg_of hc] | rw [vg_of (and_l hc)] | rw [vg_of (and_l (and_l hc))] | rw [vg_of (and_l (and_l (and_l hc)))] | rw [vg_and hc])); refine O_not rfl rfl ?_; exact hΦ
            (try simp only [PT])
            refine seq_opg (c := ((a0.list.length : Int) == 0)) (V := .bool (a0.has || (!a0.isNil))) (by first | exact wanted_t rfl rfl rfl | exact wanted_vt rfl rfl rfl) ?_ ?_
            · intro hc Φ hΦ; (repeat (first | rw [vg_of hc] | rw [vg_of (and_l hc)] | rw [vg_of (and_l (and_l hc))] | rw [vg_of (and_l (and_l (and_l hc)))] | rw [vg_and hc])); refine G_or _ _ _ rfl rfl rfl rfl ?_; exact hΦ
            (try simp only [PT])
            apply seq_op (V := .bool (((a0.list.length : Int) == 0) && (a0.has || (!a0.isNil)))) rfl
            · exact fun _ h => G_and _ _ _ rfl rfl rfl rfl h
            (try simp only [PT])
            apply seq_op (V := .bool (((a0.list.length : Int) == 0) && (a0.has || (!a0.isNil)))) rfl
            · exact fun _ h => O_mv rfl rfl h
            (try simp only [PT])
            refine seq_opg (c := (((a0.list.length : Int) == 0) && (a0.has || (!a0.isNil)))) (V := .pointer (some ⟨b1, 2, none⟩)) (by first | exact wanted_t rfl rfl rfl | exact wanted_vt rfl rfl rfl) ?_ ?_
            · intro hc Φ hΦ; refine O_fld rfl Tryd.underlying108 rfl (Tryd.sizeOf3 _) rfl ?_; exact hΦ
            (try simp only [PT])
            refine seq_opg (c := (((a0.list.length : Int) == 0) && (a0.has || (!a0.isNil)))) (V := .int .i64 a0.value) (by first | exact wanted_t rfl rfl rfl | exact wanted_vt rfl rfl rfl) ?_ ?_
            · intro hc Φ hΦ; (repeat (first | rw [vg_of hc] | rw [vg_of (and_l hc)] | rw [vg_of (and_l (and_l hc))] | rw [vg_of (and_l (and_l (and_l hc)))] | rw [vg_and hc])); refine L_1 0 _ _ rfl (Tryd.isAgg3 _) rfl H rfl rfl ?_; exact hΦ
            (try simp only [PT])
            refine seq_opg (c := (((a0.list.length : Int) == 0) && (a0.has || (!a0.isNil)))) (V := .bool (a0.value == 0)) (by first | exact wanted_t rfl rfl rfl | exact wanted_vt rfl rfl rfl) ?_ ?_
            · intro hc Φ hΦ; (repeat (first | rw [vg_of hc] | rw [vg_of (and_l hc)] | rw [vg_of (and_l (and_l hc))] | rw [vg_of (and_l (and_l (and_l hc)))] | rw [vg_and hc])); refine O_bin rfl rfl rfl eqg_int r_eql ?_; exact hΦ
            (try simp only [PT])
            refine seq_opg (c := (((a0.list.length : Int) == 0) && (a0.has || (!a0.isNil)))) (V := .bool (a0.value == 0)) (by first | exact wanted_t rfl rfl rfl | exact wanted_vt rfl rfl rfl) ?_ ?_
            · intro hc Φ hΦ; (repeat (first | rw [vg_of hc] | rw [vg_of (and_l hc)] | rw [vg_of (and_l (and_l hc))] | rw [vg_of (and_l (and_l (and_l hc)))] | rw [vg_and hc])); refine O_mv rfl rfl ?_; exact hΦ
            (try simp only [PT])
            refine seq_opg (c := ((((a0.list.length : Int) == 0) && (a0.has || (!a0.isNil))) && !(a0.value == 0))) (V := .pointer (some ⟨b1, 4, none⟩)) (by first | exact wanted_f rfl rfl rfl | exact wanted_vf rfl rfl rfl) ?_ ?_
            · intro hc Φ hΦ; refine O_fld rfl Tryd.underlying108 rfl (Tryd.sizeOf4 _) rfl ?_; exact hΦ
            (try simp only [PT])
            refine seq_opg (c := ((((a0.list.length : Int) == 0) && (a0.has || (!a0.isNil))) && !(a0.value == 0))) (V := .bool a0.has) (by first | exact wanted_f rfl rfl rfl | exact wanted_vf rfl rfl rfl) ?_ ?_
            · intro hc Φ hΦ; (repeat (first | rw [vg_of hc] | rw [vg_of (and_l hc)] | rw [vg_of (and_l (and_l hc))] | rw [vg_of (and_l (and_l (and_l hc)))] | rw [vg_and hc])); refine L_1 0 _ _ rfl (Tryd.isAgg4 _) rfl H rfl rfl ?_; exact hΦ
            (try simp only [PT])
            refine seq_opg (c := ((((a0.list.length : Int) == 0) && (a0.has || (!a0.isNil))) && !(a0.value == 0))) (V := .bool a0.has) (by first | exact wanted_f rfl rfl rfl | exact wanted_vf rfl rfl rfl) ?_ ?_
            · intro hc Φ hΦ; (repeat (first | rw [vg_of hc] | rw [vg_of (and_l hc)] | rw [vg_of (and_l (and_l hc))] | rw [vg_of (and_l (and_l (and_l hc)))] | rw [vg_and hc])); refine O_mv rfl rfl ?_; exact hΦ
            (try simp only [PT])
            refine seq_opg (c := (((((a0.list.length : Int) == 0) && (a0.has || (!a0.isNil))) && !(a0.value == 0)) && a0.has)) (V := .pointer (some ⟨b1, 5, none⟩)) (by first | exact wanted_t rfl rfl rfl | exact wanted_vt rfl rfl rfl) ?_ ?_
            · intro hc Φ hΦ; refine O_fld rfl Tryd.underlying108 rfl (Tryd.sizeOf4 _) rfl ?_; exact hΦ
            (try simp only [PT])
            refine seq_opg (c := (((((a0.list.length : Int) == 0) && (a0.has || (!a0.isNil))) && !(a0.value == 0)) && a0.has)) (V := .bool a0.isNil) (by first | exact wanted_t rfl rfl rfl | exact wanted_vt rfl rfl rfl) ?_ ?_
            · intro hc Φ hΦ; (repeat (first | rw [vg_of hc] | rw [vg_of (and_l hc)] | rw [vg_of (and_l (and_l hc))] | rw [vg_of (and_l (and_l (and_l hc)))] | rw [vg_and hc])); refine L_1 0 _ _ rfl (Tryd.isAgg4 _) rfl H rfl rfl ?_; exact hΦ
            (try simp only [PT])
            refine seq_opg (c := (((((a0.list.length : Int) == 0) && (a0.has || (!a0.isNil))) && !(a0.value == 0)) && a0.has)) (V := .bool (!a0.isNil)) (by first | exact wanted_t rfl rfl rfl | exact wanted_vt rfl rfl rfl) ?_ ?_
            · intro hc Φ hΦ; (repeat (first | rw [vg_of hc] | rw [vg_of (and_l hc)] | rw [vg_of (and_l (and_l hc))] | rw [vg_of (and_l (and_l (and_l hc)))] | rw [vg_and hc])); refine O_not rfl rfl ?_; exact hΦ
            (try simp only [PT])
            refine seq_opg (c := ((((a0.list.length : Int) == 0) && (a0.has || (!a0.isNil))) && !(a0.value == 0))) (V := .bool (a0.has && (!a0.isNil))) (by first | exact wanted_f rfl rfl rfl | exact wanted_vf rfl rfl rfl) ?_ ?_
            · intro hc Φ hΦ; (repeat (first | rw [vg_of hc] | rw [vg_of (and_l hc)] | rw [vg_of (and_l (and_l hc))] | rw [vg_of (and_l (and_l (and_l hc)))] | rw [vg_and hc])); refine G_and _ _ _ rfl rfl rfl rfl ?_; exact hΦ
            (try simp only [PT])
            refine seq_opg (c := (((a0.list.length : Int) == 0) && (a0.has || (!a0.isNil)))) (V := .bool ((a0.value == 0) || (a0.has && (!a0.isNil)))) (by first | exact wanted_t rfl rfl rfl | exact wanted_vt rfl rfl rfl) ?_ ?_
            · intro hc Φ hΦ; (repeat (first | rw [vg_of hc] | rw [vg_of (and_l hc)] | rw [vg_of (and_l (and_l hc))] | rw [vg_of (and_l (and_l (and_l hc)))] | rw [vg_and hc])); refine G_or _ _ _ rfl rfl rfl rfl ?_; exact hΦ
            (try simp only [PT])
            apply seq_op (V := .bool ((((a0.list.length : Int) == 0) && (a0.has || (!a0.isNil))) && ((a0.value == 0) || (a0.has && (!a0.isNil))))) rfl
            · exact fun _ h => G_and _ _ _ rfl rfl rfl rfl h
            (try simp only [PT])
            apply seq_op (V := .bool ((((a0.list.length : Int) == 0) && (a0.has || (!a0.isNil))) && ((a0.value == 0) || (a0.has && (!a0.isNil))))) rfl
            · exact fun _ h => O_as rfl rfl h
            (try simp only [PT])
            refine list_end ?_
            refine then_norm ?_
            refine wp_ret ?_
            refine block_ret ?_
            refine then_ret ?_
            have hm := Option.some.inj hm
            subst hm
            replace H := H.dropAt 0 rfl; simp only [List.eraseIdx_cons_succ, List.eraseIdx_cons_zero] at H
            exact ret1 rfl (rv_tmp rfl) rfl ⟨rfl, H⟩
          · have hc5 := hc
            clear hc
            replace hm := ifF hc5 hm
            refine wp_skip ?_
            refine block_norm ?_
            refine then_norm ?_
            refine wp_seq ?_
            refine wp_region_lit ?_
            apply seq_op (V := .bool false) rfl
            · exact fun _ h => O_as rfl rfl h
            (try simp only [PT])
            refine list_end ?_
            refine then_norm ?_
            refine wp_ret ?_
            have hm := Option.some.inj hm
            subst hm
            replace H := H.dropAt 0 rfl; simp only [List.eraseIdx_cons_succ, List.eraseIdx_cons_zero] at H
            exact ret1 rfl (rv_tmp rfl) rfl ⟨rfl, H⟩
def histtext_Can_1_f (a0 : Op') : Option Bool := (histtext_CanOp_f a0).bind fun u1 => some (!u1)

set_option maxHeartbeats 4000000 in
theorem histtext_Can_1_w {E : World} {s : SH} {L : List HP} {w : World} {a0 : Op'} {A_p0_list : Option Addr} {c_p0_list : Nat} (h_p0_list : kI.Sl s (.slice A_p0_list a0.list.length c_p0_list) a0.list) (hz_p0_key : a0.key.size ≤ 140737488351232) {R : Bool} (hm : histtext_Can_1_f a0 = some R) (H : Holds E s (L) w) :
    Calls Tryd.prog 149 #[.agg #[.int .i64 a0.kind, .string a0.key, .int .i64 a0.value, .slice A_p0_list a0.list.length c_p0_list, .bool a0.has, .bool a0.isNil]] w fun e w' => e = .returned (.bool R) ∧ Holds E s (L) w' := by
  unfold histtext_Can_1_f at hm
  go_enter Tryd.func149, Tryd.ntmps149
  refine wp_seq ?_
  refine wp_region_lit ?_
  refine OpG.list rfl ?_; refine B_x 108 _ rfl (v := .agg #[.int .i64 a0.kind, .string a0.key, .int .i64 a0.value, .slice A_p0_list a0.list.length c_p0_list, .bool a0.has, .bool a0.isNil]) rfl H ?_; clear H; intro b1 w1 H; (try simp only [Value.cells] at H)
  (try simp only [PT])
  apply seq_op (V := .bool false) rfl
  · exact fun _ h => O_as rfl rfl h
  (try simp only [PT])
  refine list_end ?_
  refine then_norm ?_
  refine wp_seq ?_
  obtain ⟨u1, gx1, hm⟩ := bs hm
  refine wp_region_lit ?_
  apply seq_op (V := .agg #[.int .i64 a0.kind, .string a0.key, .int .i64 a0.value, .slice A_p0_list a0.list.length c_p0_list, .bool a0.has, .bool a0.isNil]) rfl
  · exact fun _ h => G_pNi 0 _ _ rfl (Tryd.isAgg108 _) rfl H rfl (Tryd.sizeOf108 _) h
  (try simp only [PT])
  refine seq_call rfl (fun Φ hΦ => by refine O_call1 rfl Tryd.func150 rfl rfl rfl hΦ) (histtext_CanOp_w (a0 := a0) (hz_p0_key := hz_p0_key) (h_p0_list := h_p0_list) (hm := gx1) (H := H)) ?_
  clear H
  rintro e w1 ⟨rfl, H⟩; refine ⟨_, rfl, ?_⟩
  (try simp only [PT])
  apply seq_op (V := .bool (!u1)) rfl
  · exact fun _ h => O_not rfl rfl h
  (try simp only [PT])
  apply seq_op (V := .bool (!u1)) rfl
  · exact fun _ h => O_as rfl rfl h
  (try simp only [PT])
  refine list_end ?_
  refine then_norm ?_
  refine wp_ret ?_
  have hm := Option.some.inj hm
  subst hm
  replace H := H.dropAt 0 rfl; simp only [List.eraseIdx_cons_succ, List.eraseIdx_cons_zero] at H
  exact ret1 rfl (rv_tmp rfl) rfl ⟨rfl, H⟩
def slices_IndexFunc_Op_histtext_Can_1_l2  : Nat → List Op' → Option ((Int ⊕ Unit))
  | k2, []  => some (.inr ())
  | k2, x2 :: r2 => (histtext_Can_1_f x2).bind fun u1 => if u1 = true then (some (.inl (k2 : Int))) else (slices_IndexFunc_Op_histtext_Can_1_l2 (k2 + 1) r2)

def slices_IndexFunc_Op_histtext_Can_1_f (a0 : List Op') : Option Int := (slices_IndexFunc_Op_histtext_Can_1_l2 0 a0).bind fun | .inl z2_r => (some z2_r) | .inr () => (some (-1))

set_option maxHeartbeats 4000000 in
theorem slices_IndexFunc_Op_histtext_Can_1_w {E : World} {s : SH} {L : List HP} {w : World} {a0 : List Op'} {A_p0 : Option Addr} {c_p0 : Nat} (h_p0 : kOp.Sl s (.slice A_p0 a0.length c_p0) a0) {R : Int} (hm : slices_IndexFunc_Op_histtext_Can_1_f a0 = some R) (H : Holds E s (L) w) :
    Calls Tryd.prog 174 #[.slice A_p0 a0.length c_p0, .func (.func 149) #[] #[]] w fun e w' => e = .returned (.int .i64 R) ∧ Holds E s (L) w' := by
  unfold slices_IndexFunc_Op_histtext_Can_1_f at hm
  go_enter Tryd.func174, Tryd.ntmps174
  refine wp_seq ?_
  refine wp_region_lit ?_
  apply seq_op (V := .int .i64 0) rfl
  · exact fun _ h => O_as rfl rfl h
  (try simp only [PT])
  refine list_end ?_
  refine then_norm ?_
  refine wp_seq ?_
  refine wp_seq ?_
  refine wp_region_lit ?_
  apply seq_op (V := .slice A_p0 a0.length c_p0) rfl
  · exact fun _ h => O_mv rfl rfl h
  (try simp only [PT])
  apply seq_op (V := .int .i64 (a0.length : Int)) rfl
  · exact fun _ h => O_len rfl Tryd.underlying71 rfl h
  (try simp only [PT])
  apply seq_op (V := .int .i64 0) rfl
  · exact fun _ h => O_mv rfl rfl h
  (try simp only [PT])
  refine list_end ?_
  refine then_norm ?_
  refine wp_block ?_
  obtain ⟨R2, hq2, hm⟩ := bs hm
  have hn2 := Nat.le_trans (len_le (d := kOp) h_p0 (by decide)) (by decide : (140737488355328 : Nat) ≤ 9223372036854775807)
  refine wp_loopF [none, none, none, none, some 4, some 5, none, none, some 8, some 9, some 10, some 11, some 12, some 13, some 14, some 15, some 16, some 17, some 18] rfl (by simp) (fun f w => ∃ (k2 : Nat) (r2 : List Op'), a0.drop k2 = r2 ∧ f 8 = .int .i64 (k2 : Int) ∧ slices_IndexFunc_Op_histtext_Can_1_l2 k2 r2 = some R2 ∧ Holds E s (L) w) (fun f w => a0.length - (intOf (f 8)).toNat) ?_ ?_
  · exact ⟨0, a0, rfl, rfl, hq2, H⟩
  · clear H
    intro f w hI
    obtain ⟨k2, r2, hd2, hf8, hq2', H⟩ := hI
    clear hq2; have hq2 := hq2'; clear hq2'
    simp only [ovm, mixM]
    simp only [hf8]; clear hf8
    refine wp_seq ?_
    refine wp_region_lit ?_
    apply seq_op (V := .bool (decide ((k2 : Int) < (a0.length : Int)))) rfl
    · exact fun _ h => O_bin rfl rfl rfl eqg_int r_lss h
    (try simp only [PT])
    refine list_end ?_
    refine then_norm ?_
    refine wp_seq ?_
    refine wp_cond_split rfl (fun hc => ?_) (fun hc => ?_)
    · have hc1 := hc
      clear hc
      obtain ⟨x2, r2', rfl, hd2', hd2'', hl2⟩ := rng_t hd2 hc1
      rw [slices_IndexFunc_Op_histtext_Can_1_l2] at hq2
      refine wp_skip ?_
      refine then_norm ?_
      refine wp_seq ?_
      refine wp_block ?_
      refine wp_seq ?_
      refine wp_region_lit ?_
      apply seq_op (V := .int .i64 (k2 : Int)) rfl
      · exact fun _ h => O_mv rfl rfl h
      (try simp only [PT])
      apply seq_op (V := .int .i64 (k2 : Int)) rfl
      · exact fun _ h => O_as rfl rfl h
      (try simp only [PT])
      refine list_end ?_
      refine then_norm ?_
      refine wp_seq ?_
      obtain ⟨be1, oe1, A3e1, c3e1, rfl, hCe1, h0e1, h1e1, h2e1, h3e1⟩ := kOp_el h_p0 hd2'
      obtain ⟨u1, gx1, hq2⟩ := bs hq2
      refine wp_region_lit ?_
      apply seq_op (V := .func (.func 149) #[] #[]) rfl
      · exact fun _ h => O_mv rfl rfl h
      (try simp only [PT])
      apply seq_op (V := .slice (some ⟨be1, oe1, none⟩) a0.length c_p0) rfl
      · exact fun _ h => O_mv rfl rfl h
      (try simp only [PT])
      apply seq_op (V := .int .i64 (k2 : Int)) rfl
      · exact fun _ h => O_mv rfl rfl h
      (try simp only [PT])
      apply seq_op (V := .pointer (some ⟨be1, oe1 + k2 * 6, none⟩)) rfl
      · exact fun _ h => O_ix rfl Tryd.underlying71 (Tryd.sizeOf108 _) rfl rfl rfl hl2 h
      (try simp only [PT])
      apply seq_op (V := .agg #[.int .i64 x2.kind, .string x2.key, .int .i64 x2.value, .slice A3e1 x2.list.length c3e1, .bool x2.has, .bool x2.isNil]) rfl
      · exact fun _ h => G_sN _ _ rfl (Tryd.isAgg108 _) rfl H hCe1 (Tryd.sizeOf108 _) h
      (try simp only [PT])
      refine seq_call rfl (fun Φ hΦ => by refine O_callv1 (args := #[.agg #[.int .i64 x2.kind, .string x2.key, .int .i64 x2.value, .slice A3e1 x2.list.length c3e1, .bool x2.has, .bool x2.isNil]]) (v1 := .agg #[.int .i64 x2.kind, .string x2.key, .int .i64 x2.value, .slice A3e1 x2.list.length c3e1, .bool x2.has, .bool x2.isNil]) rfl Tryd.func149 rfl rfl rfl rfl (by simp only [Array.append_empty]) hΦ) (histtext_Can_1_w (a0 := x2) (hz_p0_key := h1e1) (h_p0_list := h3e1) (hm := gx1) (H := H)) ?_
      clear H
      rintro e w1 ⟨rfl, H⟩; refine ⟨_, rfl, ?_⟩
      (try simp only [PT])
      refine list_end ?_
      refine then_norm ?_
      refine wp_cond_split rfl (fun hc => ?_) (fun hc => ?_)
      · have hc2 := hc
        clear hc
        replace hq2 := ifT hc2 hq2
        refine wp_seq ?_
        refine wp_region_lit ?_
        apply seq_op (V := .int .i64 (k2 : Int)) rfl
        · exact fun _ h => O_mv rfl rfl h
        (try simp only [PT])
        apply seq_op (V := .int .i64 (k2 : Int)) rfl
        · exact fun _ h => O_as rfl rfl h
        (try simp only [PT])
        refine list_end ?_
        refine then_norm ?_
        refine wp_ret ?_
        refine block_ret ?_
        refine then_ret ?_
        refine then_ret ?_
        refine block_ret ?_
        refine then_ret ?_
        have hq2 := Option.some.inj hq2
        subst hq2
        (try dsimp only at hm)
        have hm := Option.some.inj hm
        subst hm
        exact ret1 rfl (rv_tmp rfl) rfl ⟨rfl, H⟩
      · have hc2 := hc
        clear hc
        replace hq2 := ifF hc2 hq2
        refine wp_skip ?_
        refine block_norm ?_
        refine then_norm ?_
        refine wp_region_lit ?_
        apply seq_op (V := .int .i64 (IntKind.i64.wrap ((k2 : Int) + 1))) rfl
        · exact fun _ h => O_bin rfl rfl rfl eqg_int r_add h
        (try simp only [PT])
        apply seq_op (V := .int .i64 (IntKind.i64.wrap ((k2 : Int) + 1))) rfl
        · exact fun _ h => O_mv rfl rfl h
        (try simp only [PT])
        refine list_end ?_
        refine then_norm ?_
        refine ⟨⟨⟨rfl, rfl, rfl, rfl, rfl, rfl, rfl⟩, rfl⟩, ⟨k2 + 1, _, hd2'', wrap_succ hl2 hn2, hq2, H⟩, ?_⟩
        exact meas_succ hl2 hn2
    · have hc1 := hc
      clear hc
      obtain rfl := rng_f hd2 hc1
      rw [slices_IndexFunc_Op_histtext_Can_1_l2] at hq2
      refine wp_exit ?_
      refine then_exit ?_
      refine then_exit ?_
      have hq2 := Option.some.inj hq2
      subst hq2
      (try dsimp only at hm)
      refine block_exit ?_
      refine then_norm ?_
      refine wp_seq ?_
      refine wp_region_lit ?_
      apply seq_op (V := .int .i64 (-1)) rfl
      · exact fun _ h => O_as rfl rfl h
      (try simp only [PT])
      refine list_end ?_
      refine then_norm ?_
      refine wp_ret ?_
      have hm := Option.some.inj hm
      subst hm
      exact ret1 rfl (rv_tmp rfl) rfl ⟨rfl, H⟩
def slices_ContainsFunc_Op_histtext_Can_1_f (a0 : List Op') : Option Bool := (slices_IndexFunc_Op_histtext_Can_1_f a0).bind fun u1 => some (decide (u1 ≥ 0))

set_option maxHeartbeats 4000000 in
theorem slices_ContainsFunc_Op_histtext_Can_1_w {E : World} {s : SH} {L : List HP} {w : World} {a0 : List Op'} {A_p0 : Option Addr} {c_p0 : Nat} (h_p0 : kOp.Sl s (.slice A_p0 a0.length c_p0) a0) {R : Bool} (hm : slices_ContainsFunc_Op_histtext_Can_1_f a0 = some R) (H : Holds E s (L) w) :
    Calls Tryd.prog 153 #[.slice A_p0 a0.length c_p0, .func (.func 149) #[] #[]] w fun e w' => e = .returned (.bool R) ∧ Holds E s (L) w' := by
  unfold slices_ContainsFunc_Op_histtext_Can_1_f at hm
  go_enter Tryd.func153, Tryd.ntmps153
  refine wp_seq ?_
  refine wp_region_lit ?_
  apply seq_op (V := .bool false) rfl
  · exact fun _ h => O_as rfl rfl h
  (try simp only [PT])
  refine list_end ?_
  refine then_norm ?_
  refine wp_seq ?_
  obtain ⟨u1, gx1, hm⟩ := bs hm
  refine wp_region_lit ?_
  apply seq_op (V := .slice A_p0 a0.length c_p0) rfl
  · exact fun _ h => O_mv rfl rfl h
  (try simp only [PT])
  apply seq_op (V := .func (.func 149) #[] #[]) rfl
  · exact fun _ h => O_mv rfl rfl h
  (try simp only [PT])
  refine seq_call rfl (fun Φ hΦ => by refine O_call2 rfl Tryd.func174 rfl rfl rfl rfl hΦ) (slices_IndexFunc_Op_histtext_Can_1_w (a0 := a0) (h_p0 := h_p0) (hm := gx1) (H := H)) ?_
  clear H
  rintro e w1 ⟨rfl, H⟩; refine ⟨_, rfl, ?_⟩
  (try simp only [PT])
  apply seq_op (V := .bool (decide (u1 ≥ 0))) rfl
  · exact fun _ h => O_bin rfl rfl rfl eqg_int r_geq h
  (try simp only [PT])
  apply seq_op (V := .bool (decide (u1 ≥ 0))) rfl
  · exact fun _ h => O_as rfl rfl h
  (try simp only [PT])
  refine list_end ?_
  refine then_norm ?_
  refine wp_ret ?_
  have hm := Option.some.inj hm
  subst hm
  exact ret1 rfl (rv_tmp rfl) rfl ⟨rfl, H⟩
def histtext_Can_2_f (a0 : Ev) : Option Bool := if ((((((decide (a0.kind < 1)) || (decide (a0.kind > 4))) || (decide (a0.proc < 0))) || (decide (a0.proc > 99))) || (decide ((a0.ops.length : Int) < 1))) || (decide ((a0.ops.length : Int) > 8))) = true then (some true) else ((slices_ContainsFunc_Op_histtext_Can_1_f a0.ops).bind fun u1 => some u1)

set_option maxHeartbeats 4000000 in
theorem histtext_Can_2_w {E : World} {s : SH} {L : List HP} {w : World} {a0 : Ev} {A_p0_ops : Option Addr} {c_p0_ops : Nat} (h_p0_ops : kOp.Sl s (.slice A_p0_ops a0.ops.length c_p0_ops) a0.ops) {b_p1 o_p1 : Nat} (hC_p1 : Cells s ⟨b_p1, o_p1, none⟩ [.func (.func 149) #[] #[]]) {R : Bool} (hm : histtext_Can_2_f a0 = some R) (H : Holds E s (L) w) :
    Calls Tryd.prog 152 #[.agg #[.int .i64 a0.kind, .int .i64 a0.proc, .slice A_p0_ops a0.ops.length c_p0_ops], .pointer (some ⟨b_p1, o_p1, none⟩)] w fun e w' => e = .returned (.bool R) ∧ Holds E s (L) w' := by
  unfold histtext_Can_2_f at hm
  go_enter Tryd.func152, Tryd.ntmps152
  refine wp_seq ?_
  refine wp_region_lit ?_
  refine OpG.list rfl ?_; refine B_x 73 _ rfl (v := .agg #[.int .i64 a0.kind, .int .i64 a0.proc, .slice A_p0_ops a0.ops.length c_p0_ops]) rfl H ?_; clear H; intro b2 w1 H; (try simp only [Value.cells] at H)
  (try simp only [PT])
  apply seq_op (V := .bool false) rfl
  · exact fun _ h => O_as rfl rfl h
  (try simp only [PT])
  refine list_end ?_
  refine then_norm ?_
  refine wp_seq ?_
  rcases Bool.eq_false_or_eq_true ((((((decide (a0.kind < 1)) || (decide (a0.kind > 4))) || (decide (a0.proc < 0))) || (decide (a0.proc > 99))) || (decide ((a0.ops.length : Int) < 1))) || (decide ((a0.ops.length : Int) > 8))) with hg1 | hg1
  · replace hm := ifT hg1 hm
    refine wp_region_lit ?_
    apply seq_op (V := .pointer (some ⟨b2, 0, none⟩)) rfl
    · exact fun _ h => O_fld rfl Tryd.underlying73 rfl (Tryd.sizeOf3 _) rfl h
    (try simp only [PT])
    apply seq_op (V := .int .i64 a0.kind) rfl
    · exact fun _ h => L_1 0 _ _ rfl (Tryd.isAgg3 _) rfl H rfl rfl h
    (try simp only [PT])
    apply seq_op (V := .bool (decide (a0.kind < 1))) rfl
    · exact fun _ h => O_bin rfl rfl rfl eqg_int r_lss h
    (try simp only [PT])
    apply seq_op (V := .bool (decide (a0.kind < 1))) rfl
    · exact fun _ h => O_mv rfl rfl h
    (try simp only [PT])
    refine seq_opg (c := (!(decide (a0.kind < 1)))) (V := .pointer (some ⟨b2, 0, none⟩)) (by first | exact wanted_f rfl rfl rfl | exact wanted_vf rfl rfl rfl) ?_ ?_
    · intro hc Φ hΦ; refine O_fld rfl Tryd.underlying73 rfl (Tryd.sizeOf3 _) rfl ?_; exact hΦ
    (try simp only [PT])
    refine seq_opg (c := (!(decide (a0.kind < 1)))) (V := .int .i64 a0.kind) (by first | exact wanted_f rfl rfl rfl | exact wanted_vf rfl rfl rfl) ?_ ?_
    · intro hc Φ hΦ; (repeat (first | rw [vg_of hc] | rw [vg_of (and_l hc)] | rw [vg_of (and_l (and_l hc))] | rw [vg_of (and_l (and_l (and_l hc)))] | rw [vg_and hc])); refine L_1 0 _ _ rfl (Tryd.isAgg3 _) rfl H rfl rfl ?_; exact hΦ
    (try simp only [PT])
    refine seq_opg (c := (!(decide (a0.kind < 1)))) (V := .bool (decide (a0.kind > 4))) (by first | exact wanted_f rfl rfl rfl | exact wanted_vf rfl rfl rfl) ?_ ?_
    · intro hc Φ hΦ; (repeat (first | rw [vg_of hc] | rw [vg_of (and_l hc)] | rw [vg_of (and_l (and_l hc))] | rw [vg_of (and_l (and_l (and_l hc)))] | rw [vg_and hc])); refine O_bin rfl rfl rfl eqg_int r_gtr ?_; exact hΦ
    (try simp only [PT])
    apply seq_op (V := .bool ((decide (a0.kind < 1)) || (decide (a0.kind > 4)))) rfl
    · exact fun _ h => G_or _ _ _ rfl rfl rfl rfl h
    (try simp only [PT])
    apply seq_op (V := .bool ((decide (a0.kind < 1)) || (decide (a0.kind > 4)))) rfl
    · exact fun _ h => O_mv rfl rfl h
    (try simp only [PT])
    refine seq_opg (c := (!((decide (a0.kind < 1)) || (decide (a0.kind > 4))))) (V := .pointer (some ⟨b2, 1, none⟩)) (by first | exact wanted_f rfl rfl rfl | exact wanted_vf rfl rfl rfl) ?_ ?_
    · intro hc Φ hΦ; refine O_fld rfl Tryd.underlying73 rfl (Tryd.sizeOf3 _) rfl ?_; exact hΦ
    (try simp only [PT])
    refine seq_opg (c := (!((decide (a0.kind < 1)) || (decide (a0.kind > 4))))) (V := .int .i64 a0.proc) (by first | exact wanted_f rfl rfl rfl | exact wanted_vf rfl rfl rfl) ?_ ?_
    · intro hc Φ hΦ; (repeat (first | rw [vg_of hc] | rw [vg_of (and_l hc)] | rw [vg_of (and_l (and_l hc))] | rw [vg_of (and_l (and_l (and_l hc)))] | rw [vg_and hc])); refine L_1 0 _ _ rfl (Tryd.isAgg3 _) rfl H rfl rfl ?_; exact hΦ
    (try simp only [PT])
    refine seq_opg (c := (!((decide (a0.kind < 1)) || (decide (a0.kind > 4))))) (V := .bool (decide (a0.proc < 0))) (by first | exact wanted_f rfl rfl rfl | exact wanted_vf rfl rfl rfl) ?_ ?_
    · intro hc Φ hΦ; (repeat (first | rw [vg_of hc] | rw [vg_of (and_l hc)] | rw [vg_of (and_l (and_l hc))] | rw [vg_of (and_l (and_l (and_l hc)))] | rw [vg_and hc])); refine O_bin rfl rfl rfl eqg_int r_lss ?_; exact hΦ
    (try simp only [PT])
    apply seq_op (V := .bool (((decide (a0.kind < 1)) || (decide (a0.kind > 4))) || (decide (a0.proc < 0)))) rfl
    · exact fun _ h => G_or _ _ _ rfl rfl rfl rfl h
    (try simp only [PT])
    apply seq_op (V := .bool (((decide (a0.kind < 1)) || (decide (a0.kind > 4))) || (decide (a0.proc < 0)))) rfl
    · exact fun _ h => O_mv rfl rfl h
    (try simp only [PT])
    refine seq_opg (c := (!(((decide (a0.kind < 1)) || (decide (a0.kind > 4))) || (decide (a0.proc < 0))))) (V := .pointer (some ⟨b2, 1, none⟩)) (by first | exact wanted_f rfl rfl rfl | exact wanted_vf rfl rfl rfl) ?_ ?_
    · intro hc Φ hΦ; refine O_fld rfl Tryd.underlying73 rfl (Tryd.sizeOf3 _) rfl ?_; exact hΦ
    (try simp only [PT])
    refine seq_opg (c := (!(((decide (a0.kind < 1)) || (decide (a0.kind > 4))) || (decide (a0.proc < 0))))) (V := .int .i64 a0.proc) (by first | exact wanted_f rfl rfl rfl | exact wanted_vf rfl rfl rfl) ?_ ?_
    · intro hc Φ hΦ; (repeat (first | rw [vg_of hc] | rw [vg_of (and_l hc)] | rw [vg_of (and_l (and_l hc))] | rw [vg_of (and_l (and_l (and_l hc)))] | rw [vg_and hc])); refine L_1 0 _ _ rfl (Tryd.isAgg3 _) rfl H rfl rfl ?_; exact hΦ
    (try simp only [PT])
    refine seq_opg (c := (!(((decide (a0.kind < 1)) || (decide (a0.kind > 4))) || (decide (a0.proc < 0))))) (V := .bool (decide (a0.proc > 99))) (by first | exact wanted_f rfl rfl rfl | exact wanted_vf rfl rfl rfl) ?_ ?_
    · intro hc Φ hΦ; (repeat (first | rw [vg_of hc] | rw [vg_of (and_l hc)] | rw [vg_of (and_l (and_l hc))] | rw [vg_of (and_l (and_l (and_l hc)))] | rw [vg_and hc])); refine O_bin rfl rfl rfl eqg_int r_gtr ?_; exact hΦ
    (try simp only [PT])
    apply seq_op (V := .bool ((((decide (a0.kind < 1)) || (decide (a0.kind > 4))) || (decide (a0.proc < 0))) || (decide (a0.proc > 99)))) rfl
    · exact fun _ h => G_or _ _ _ rfl rfl rfl rfl h
    (try simp only [PT])
    apply seq_op (V := .bool ((((decide (a0.kind < 1)) || (decide (a0.kind > 4))) || (decide (a0.proc < 0))) || (decide (a0.proc > 99)))) rfl
    · exact fun _ h => O_mv rfl rfl h
    (try simp only [PT])
    refine seq_opg (c := (!((((decide (a0.kind < 1)) || (decide (a0.kind > 4))) || (decide (a0.proc < 0))) || (decide (a0.proc > 99))))) (V := .pointer (some ⟨b2, 2, none⟩)) (by first | exact wanted_f rfl rfl rfl | exact wanted_vf rfl rfl rfl) ?_ ?_
    · intro hc Φ hΦ; refine O_fld rfl Tryd.underlying73 rfl (Tryd.sizeOf71 _) rfl ?_; exact hΦ
    (try simp only [PT])
    refine seq_opg (c := (!((((decide (a0.kind < 1)) || (decide (a0.kind > 4))) || (decide (a0.proc < 0))) || (decide (a0.proc > 99))))) (V := .slice A_p0_ops a0.ops.length c_p0_ops) (by first | exact wanted_f rfl rfl rfl | exact wanted_vf rfl rfl rfl) ?_ ?_
    · intro hc Φ hΦ; (repeat (first | rw [vg_of hc] | rw [vg_of (and_l hc)] | rw [vg_of (and_l (and_l hc))] | rw [vg_of (and_l (and_l (and_l hc)))] | rw [vg_and hc])); refine L_1 0 _ _ rfl (Tryd.isAgg71 _) rfl H rfl rfl ?_; exact hΦ
    (try simp only [PT])
    refine seq_opg (c := (!((((decide (a0.kind < 1)) || (decide (a0.kind > 4))) || (decide (a0.proc < 0))) || (decide (a0.proc > 99))))) (V := .int .i64 (a0.ops.length : Int)) (by first | exact wanted_f rfl rfl rfl | exact wanted_vf rfl rfl rfl) ?_ ?_
    · intro hc Φ hΦ; (repeat (first | rw [vg_of hc] | rw [vg_of (and_l hc)] | rw [vg_of (and_l (and_l hc))] | rw [vg_of (and_l (and_l (and_l hc)))] | rw [vg_and hc])); refine O_len rfl Tryd.underlying71 rfl ?_; exact hΦ
    (try simp only [PT])
    refine seq_opg (c := (!((((decide (a0.kind < 1)) || (decide (a0.kind > 4))) || (decide (a0.proc < 0))) || (decide (a0.proc > 99))))) (V := .bool (decide ((a0.ops.length : Int) < 1))) (by first | exact wanted_f rfl rfl rfl | exact wanted_vf rfl rfl rfl) ?_ ?_
    · intro hc Φ hΦ; (repeat (first | rw [vg_of hc] | rw [vg_of (and_l hc)] | rw [vg_of (and_l (and_l hc))] | rw [vg_of (and_l (and_l (and_l hc)))] | rw [vg_and hc])); refine O_bin rfl rfl rfl eqg_int r_lss ?_; exact hΦ
    (try simp only [PT])
    apply seq_op (V := .bool (((((decide (a0.kind < 1)) || (decide (a0.kind > 4))) || (decide (a0.proc < 0))) || (decide (a0.proc > 99))) || (decide ((a0.ops.length : Int) < 1)))) rfl
    · exact fun _ h => G_or _ _ _ rfl rfl rfl rfl h
    (try simp only [PT])
    apply seq_op (V := .bool (((((decide (a0.kind < 1)) || (decide (a0.kind > 4))) || (decide (a0.proc < 0))) || (decide (a0.proc > 99))) || (decide ((a0.ops.length : Int) < 1)))) rfl
    · exact fun _ h => O_mv rfl rfl h
    (try simp only [PT])
    refine seq_opg (c := (!(((((decide (a0.kind < 1)) || (decide (a0.kind > 4))) || (decide (a0.proc < 0))) || (decide (a0.proc > 99))) || (decide ((a0.ops.length : Int) < 1))))) (V := .pointer (some ⟨b2, 2, none⟩)) (by first | exact wanted_f rfl rfl rfl | exact wanted_vf rfl rfl rfl) ?_ ?_
    · intro hc Φ hΦ; refine O_fld rfl Tryd.underlying73 rfl (Tryd.sizeOf71 _) rfl ?_; exact hΦ
    (try simp only [PT])
    refine seq_opg (c := (!(((((decide (a0.kind < 1)) || (decide (a0.kind > 4))) || (decide (a0.proc < 0))) || (decide (a0.proc > 99))) || (decide ((a0.ops.length : Int) < 1))))) (V := .slice A_p0_ops a0.ops.length c_p0_ops) (by first | exact wanted_f rfl rfl rfl | exact wanted_vf rfl rfl rfl) ?_ ?_
    · intro hc Φ hΦ; (repeat (first | rw [vg_of hc] | rw [vg_of (and_l hc)] | rw [vg_of (and_l (and_l hc))] | rw [vg_of (and_l (and_l (and_l hc)))] | rw [vg_and hc])); refine L_1 0 _ _ rfl (Tryd.isAgg71 _) rfl H rfl rfl ?_; exact hΦ
    (try simp only [PT])
    refine seq_opg (c := (!(((((decide (a0.kind < 1)) || (decide (a0.kind > 4))) || (decide (a0.proc < 0))) || (decide (a0.proc > 99))) || (decide ((a0.ops.length : Int) < 1))))) (V := .int .i64 (a0.ops.length : Int)) (by first | exact wanted_f rfl rfl rfl | exact wanted_vf rfl rfl rfl) ?_ ?_
    · intro hc Φ hΦ; (repeat (first | rw [vg_of hc] | rw [vg_of (and_l hc)] | rw [vg_of (and_l (and_l hc))] | rw [vg_of (and_l (and_l (and_l hc)))] | rw [vg_and hc])); refine O_len rfl Tryd.underlying71 rfl ?_; exact hΦ
    (try simp only [PT])
    refine seq_opg (c := (!(((((decide (a0.kind < 1)) || (decide (a0.kind > 4))) || (decide (a0.proc < 0))) || (decide (a0.proc > 99))) || (decide ((a0.ops.length : Int) < 1))))) (V := .bool (decide ((a0.ops.length : Int) > 8))) (by first | exact wanted_f rfl rfl rfl | exact wanted_vf rfl rfl rfl) ?_ ?_
    · intro hc Φ hΦ; (repeat (first | rw [vg_of hc] | rw [vg_of (and_l hc)] | rw [vg_of (and_l (and_l hc))] | rw [vg_of (and_l (and_l (and_l hc)))] | rw [vg_and hc])); refine O_bin rfl rfl rfl eqg_int r_gtr ?_; exact hΦ
    (try simp only [PT])
    apply seq_op (V := .bool ((((((decide (a0.kind < 1)) || (decide (a0.kind > 4))) || (decide (a0.proc < 0))) || (decide (a0.proc > 99))) || (decide ((a0.ops.length : Int) < 1))) || (decide ((a0.ops.length : Int) > 8)))) rfl
    · exact fun _ h => G_or _ _ _ rfl rfl rfl rfl h
    (try simp only [PT])
    apply seq_op (V := .bool ((((((decide (a0.kind < 1)) || (decide (a0.kind > 4))) || (decide (a0.proc < 0))) || (decide (a0.proc > 99))) || (decide ((a0.ops.length : Int) < 1))) || (decide ((a0.ops.length : Int) > 8)))) rfl
    · exact fun _ h => O_mv rfl rfl h
    (try simp only [PT])
    refine seq_skip ((wanted_f rfl rfl rfl).trans (congrArg not hg1)) ?_
    (try simp only [PT])
    refine seq_skip ((wanted_f rfl rfl rfl).trans (congrArg not hg1)) ?_
    (try simp only [PT])
    refine seq_skip ((wanted_f rfl rfl rfl).trans (congrArg not hg1)) ?_
    (try simp only [PT])
    refine seq_skip ((wanted_f rfl rfl rfl).trans (congrArg not hg1)) ?_
    (try simp only [PT])
    apply seq_op (V := .bool true) rfl
    · exact fun _ h => O_pickT rfl rfl hg1 rfl h
    (try simp only [PT])
    apply seq_op (V := .bool true) rfl
    · exact fun _ h => O_as rfl rfl h
    (try simp only [PT])
    refine list_end ?_
    refine then_norm ?_
    refine wp_ret ?_
    have hm := Option.some.inj hm
    subst hm
    replace H := H.dropAt 0 rfl; simp only [List.eraseIdx_cons_succ, List.eraseIdx_cons_zero] at H
    exact ret1 rfl (rv_tmp rfl) rfl ⟨rfl, H⟩
  · replace hm := ifF hg1 hm
    obtain ⟨u1, gx1, hm⟩ := bs hm
    refine wp_region_lit ?_
    apply seq_op (V := .pointer (some ⟨b2, 0, none⟩)) rfl
    · exact fun _ h => O_fld rfl Tryd.underlying73 rfl (Tryd.sizeOf3 _) rfl h
    (try simp only [PT])
    apply seq_op (V := .int .i64 a0.kind) rfl
    · exact fun _ h => L_1 0 _ _ rfl (Tryd.isAgg3 _) rfl H rfl rfl h
    (try simp only [PT])
    apply seq_op (V := .bool (decide (a0.kind < 1))) rfl
    · exact fun _ h => O_bin rfl rfl rfl eqg_int r_lss h
    (try simp only [PT])
    apply seq_op (V := .bool (decide (a0.kind < 1))) rfl
    · exact fun _ h => O_mv rfl rfl h
    (try simp only [PT])
    refine seq_opg (c := (!(decide (a0.kind < 1)))) (V := .pointer (some ⟨b2, 0, none⟩)) (by first | exact wanted_f rfl rfl rfl | exact wanted_vf rfl rfl rfl) ?_ ?_
    · intro hc Φ hΦ; refine O_fld rfl Tryd.underlying73 rfl (Tryd.sizeOf3 _) rfl ?_; exact hΦ
    (try simp only [PT])
    refine seq_opg (c := (!(decide (a0.kind < 1)))) (V := .int .i64 a0.kind) (by first | exact wanted_f rfl rfl rfl | exact wanted_vf rfl rfl rfl) ?_ ?_
    · intro hc Φ hΦ; (repeat (first | rw [vg_of hc] | rw [vg_of (and_l hc)] | rw [vg_of (and_l (and_l hc))] | rw [vg_of (and_l (and_l (and_l hc)))] | rw [vg_and hc])); refine L_1 0 _ _ rfl (Tryd.isAgg3 _) rfl H rfl rfl ?_; exact hΦ
    (try simp only [PT])
    refine seq_opg (c := (!(decide (a0.kind < 1)))) (V := .bool (decide (a0.kind > 4))) (by first | exact wanted_f rfl rfl rfl | exact wanted_vf rfl rfl rfl) ?_ ?_
    · intro hc Φ hΦ; (repeat (first | rw [vg_of hc] | rw [vg_of (and_l hc)] | rw [vg_of (and_l (and_l hc))] | rw [vg_of (and_l (and_l (and_l hc)))] | rw [vg_and hc])); refine O_bin rfl rfl rfl eqg_int r_gtr ?_; exact hΦ
    (try simp only [PT])
    apply seq_op (V := .bool ((decide (a0.kind < 1)) || (decide (a0.kind > 4)))) rfl
    · exact fun _ h => G_or _ _ _ rfl rfl rfl rfl h
    (try simp only [PT])
    apply seq_op (V := .bool ((decide (a0.kind < 1)) || (decide (a0.kind > 4)))) rfl
    · exact fun _ h => O_mv rfl rfl h
    (try simp only [PT])
    refine seq_opg (c := (!((decide (a0.kind < 1)) || (decide (a0.kind > 4))))) (V := .pointer (some ⟨b2, 1, none⟩)) (by first | exact wanted_f rfl rfl rfl | exact wanted_vf rfl rfl rfl) ?_ ?_
    · intro hc Φ hΦ; refine O_fld rfl Tryd.underlying73 rfl (Tryd.sizeOf3 _) rfl ?_; exact hΦ
    (try simp only [PT])
    refine seq_opg (c := (!((decide (a0.kind < 1)) || (decide (a0.kind > 4))))) (V := .int .i64 a0.proc) (by first | exact wanted_f rfl rfl rfl | exact wanted_vf rfl rfl rfl) ?_ ?_
    · intro hc Φ hΦ; (repeat (first | rw [vg_of hc] | rw [vg_of (and_l hc)] | rw [vg_of (and_l (and_l hc))] | rw [vg_of (and_l (and_l (and_l hc)))] | rw [vg_and hc])); refine L_1 0 _ _ rfl (Tryd.isAgg3 _) rfl H rfl rfl ?_; exact hΦ
    (try simp only [PT])
    refine seq_opg (c := (!((decide (a0.kind < 1)) || (decide (a0.kind > 4))))) (V := .bool (decide (a0.proc < 0))) (by first | exact wanted_f rfl rfl rfl | exact wanted_vf rfl rfl rfl) ?_ ?_
    · intro hc Φ hΦ; (repeat (first | rw [vg_of hc] | rw [vg_of (and_l hc)] | rw [vg_of (and_l (and_l hc))] | rw [vg_of (and_l (and_l (and_l hc)))] | rw [vg_and hc])); refine O_bin rfl rfl rfl eqg_int r_lss ?_; exact hΦ
    (try simp only [PT])
    apply seq_op (V := .bool (((decide (a0.kind < 1)) || (decide (a0.kind > 4))) || (decide (a0.proc < 0)))) rfl
    · exact fun _ h => G_or _ _ _ rfl rfl rfl rfl h
    (try simp only [PT])
    apply seq_op (V := .bool (((decide (a0.kind < 1)) || (decide (a0.kind > 4))) || (decide (a0.proc < 0)))) rfl
    · exact fun _ h => O_mv rfl rfl h
    (try simp only [PT])
    refine seq_opg (c := (!(((decide (a0.kind < 1)) || (decide (a0.kind > 4))) || (decide (a0.proc < 0))))) (V := .pointer (some ⟨b2, 1, none⟩)) (by first | exact wanted_f rfl rfl rfl | exact wanted_vf rfl rfl rfl) ?_ ?_
    · intro hc Φ hΦ; refine O_fld rfl Tryd.underlying73 rfl (Tryd.sizeOf3 _) rfl ?_; exact hΦ
    (try simp only [PT])
    refine seq_opg (c := (!(((decide (a0.kind < 1)) || (decide (a0.kind > 4))) || (decide (a0.proc < 0))))) (V := .int .i64 a0.proc) (by first | exact wanted_f rfl rfl rfl | exact wanted_vf rfl rfl rfl) ?_ ?_
    · intro hc Φ hΦ; (repeat (first | rw [vg_of hc] | rw [vg_of (and_l hc)] | rw [vg_of (and_l (and_l hc))] | rw [vg_of (and_l (and_l (and_l hc)))] | rw [vg_and hc])); refine L_1 0 _ _ rfl (Tryd.isAgg3 _) rfl H rfl rfl ?_; exact hΦ
    (try simp only [PT])
    refine seq_opg (c := (!(((decide (a0.kind < 1)) || (decide (a0.kind > 4))) || (decide (a0.proc < 0))))) (V := .bool (decide (a0.proc > 99))) (by first | exact wanted_f rfl rfl rfl | exact wanted_vf rfl rfl rfl) ?_ ?_
    · intro hc Φ hΦ; (repeat (first | rw [vg_of hc] | rw [vg_of (and_l hc)] | rw [vg_of (and_l (and_l hc))] | rw [vg_of (and_l (and_l (and_l hc)))] | rw [vg_and hc])); refine O_bin rfl rfl rfl eqg_int r_gtr ?_; exact hΦ
    (try simp only [PT])
    apply seq_op (V := .bool ((((decide (a0.kind < 1)) || (decide (a0.kind > 4))) || (decide (a0.proc < 0))) || (decide (a0.proc > 99)))) rfl
    · exact fun _ h => G_or _ _ _ rfl rfl rfl rfl h
    (try simp only [PT])
    apply seq_op (V := .bool ((((decide (a0.kind < 1)) || (decide (a0.kind > 4))) || (decide (a0.proc < 0))) || (decide (a0.proc > 99)))) rfl
    · exact fun _ h => O_mv rfl rfl h
    (try simp only [PT])
    refine seq_opg (c := (!((((decide (a0.kind < 1)) || (decide (a0.kind > 4))) || (decide (a0.proc < 0))) || (decide (a0.proc > 99))))) (V := .pointer (some ⟨b2, 2, none⟩)) (by first | exact wanted_f rfl rfl rfl | exact wanted_vf rfl rfl rfl) ?_ ?_
    · intro hc Φ hΦ; refine O_fld rfl Tryd.underlying73 rfl (Tryd.sizeOf71 _) rfl ?_; exact hΦ
    (try simp only [PT])
    refine seq_opg (c := (!((((decide (a0.kind < 1)) || (decide (a0.kind > 4))) || (decide (a0.proc < 0))) || (decide (a0.proc > 99))))) (V := .slice A_p0_ops a0.ops.length c_p0_ops) (by first | exact wanted_f rfl rfl rfl | exact wanted_vf rfl rfl rfl) ?_ ?_
    · intro hc Φ hΦ; (repeat (first | rw [vg_of hc] | rw [vg_of (and_l hc)] | rw [vg_of (and_l (and_l hc))] | rw [vg_of (and_l (and_l (and_l hc)))] | rw [vg_and hc])); refine L_1 0 _ _ rfl (Tryd.isAgg71 _) rfl H rfl rfl ?_; exact hΦ
    (try simp only [PT])
    refine seq_opg (c := (!((((decide (a0.kind < 1)) || (decide (a0.kind > 4))) || (decide (a0.proc < 0))) || (decide (a0.proc > 99))))) (V := .int .i64 (a0.ops.length : Int)) (by first | exact wanted_f rfl rfl rfl | exact wanted_vf rfl rfl rfl) ?_ ?_
    · intro hc Φ hΦ; (repeat (first | rw [vg_of hc] | rw [vg_of (and_l hc)] | rw [vg_of (and_l (and_l hc))] | rw [vg_of (and_l (and_l (and_l hc)))] | rw [vg_and hc])); refine O_len rfl Tryd.underlying71 rfl ?_; exact hΦ
    (try simp only [PT])
    refine seq_opg (c := (!((((decide (a0.kind < 1)) || (decide (a0.kind > 4))) || (decide (a0.proc < 0))) || (decide (a0.proc > 99))))) (V := .bool (decide ((a0.ops.length : Int) < 1))) (by first | exact wanted_f rfl rfl rfl | exact wanted_vf rfl rfl rfl) ?_ ?_
    · intro hc Φ hΦ; (repeat (first | rw [vg_of hc] | rw [vg_of (and_l hc)] | rw [vg_of (and_l (and_l hc))] | rw [vg_of (and_l (and_l (and_l hc)))] | rw [vg_and hc])); refine O_bin rfl rfl rfl eqg_int r_lss ?_; exact hΦ
    (try simp only [PT])
    apply seq_op (V := .bool (((((decide (a0.kind < 1)) || (decide (a0.kind > 4))) || (decide (a0.proc < 0))) || (decide (a0.proc > 99))) || (decide ((a0.ops.length : Int) < 1)))) rfl
    · exact fun _ h => G_or _ _ _ rfl rfl rfl rfl h
    (try simp only [PT])
    apply seq_op (V := .bool (((((decide (a0.kind < 1)) || (decide (a0.kind > 4))) || (decide (a0.proc < 0))) || (decide (a0.proc > 99))) || (decide ((a0.ops.length : Int) < 1)))) rfl
    · exact fun _ h => O_mv rfl rfl h
    (try simp only [PT])
    refine seq_opg (c := (!(((((decide (a0.kind < 1)) || (decide (a0.kind > 4))) || (decide (a0.proc < 0))) || (decide (a0.proc > 99))) || (decide ((a0.ops.length : Int) < 1))))) (V := .pointer (some ⟨b2, 2, none⟩)) (by first | exact wanted_f rfl rfl rfl | exact wanted_vf rfl rfl rfl) ?_ ?_
    · intro hc Φ hΦ; refine O_fld rfl Tryd.underlying73 rfl (Tryd.sizeOf71 _) rfl ?_; exact hΦ
    (try simp only [PT])
    refine seq_opg (c := (!(((((decide (a0.kind < 1)) || (decide (a0.kind > 4))) || (decide (a0.proc < 0))) || (decide (a0.proc > 99))) || (decide ((a0.ops.length : Int) < 1))))) (V := .slice A_p0_ops a0.ops.length c_p0_ops) (by first | exact wanted_f rfl rfl rfl | exact wanted_vf rfl rfl rfl) ?_ ?_
    · intro hc Φ hΦ; (repeat (first | rw [vg_of hc] | rw [vg_of (and_l hc)] | rw [vg_of (and_l (and_l hc))] | rw [vg_of (and_l (and_l (and_l hc)))] | rw [vg_and hc])); refine L_1 0 _ _ rfl (Tryd.isAgg71 _) rfl H rfl rfl ?_; exact hΦ
    (try simp only [PT])
    refine seq_opg (c := (!(((((decide (a0.kind < 1)) || (decide (a0.kind > 4))) || (decide (a0.proc < 0))) || (decide (a0.proc > 99))) || (decide ((a0.ops.length : Int) < 1))))) (V := .int .i64 (a0.ops.length : Int)) (by first | exact wanted_f rfl rfl rfl | exact wanted_vf rfl rfl rfl) ?_ ?_
    · intro hc Φ hΦ; (repeat (first | rw [vg_of hc] | rw [vg_of (and_l hc)] | rw [vg_of (and_l (and_l hc))] | rw [vg_of (and_l (and_l (and_l hc)))] | rw [vg_and hc])); refine O_len rfl Tryd.underlying71 rfl ?_; exact hΦ
    (try simp only [PT])
    refine seq_opg (c := (!(((((decide (a0.kind < 1)) || (decide (a0.kind > 4))) || (decide (a0.proc < 0))) || (decide (a0.proc > 99))) || (decide ((a0.ops.length : Int) < 1))))) (V := .bool (decide ((a0.ops.length : Int) > 8))) (by first | exact wanted_f rfl rfl rfl | exact wanted_vf rfl rfl rfl) ?_ ?_
    · intro hc Φ hΦ; (repeat (first | rw [vg_of hc] | rw [vg_of (and_l hc)] | rw [vg_of (and_l (and_l hc))] | rw [vg_of (and_l (and_l (and_l hc)))] | rw [vg_and hc])); refine O_bin rfl rfl rfl eqg_int r_gtr ?_; exact hΦ
    (try simp only [PT])
    apply seq_op (V := .bool ((((((decide (a0.kind < 1)) || (decide (a0.kind > 4))) || (decide (a0.proc < 0))) || (decide (a0.proc > 99))) || (decide ((a0.ops.length : Int) < 1))) || (decide ((a0.ops.length : Int) > 8)))) rfl
    · exact fun _ h => G_or _ _ _ rfl rfl rfl rfl h
    (try simp only [PT])
    apply seq_op (V := .bool ((((((decide (a0.kind < 1)) || (decide (a0.kind > 4))) || (decide (a0.proc < 0))) || (decide (a0.proc > 99))) || (decide ((a0.ops.length : Int) < 1))) || (decide ((a0.ops.length : Int) > 8)))) rfl
    · exact fun _ h => O_mv rfl rfl h
    (try simp only [PT])
    refine seq_opw (V := .pointer (some ⟨b2, 2, none⟩)) ((wanted_f rfl rfl rfl).trans (congrArg not hg1)) ?_ ?_
    · exact fun _ h => O_fld rfl Tryd.underlying73 rfl (Tryd.sizeOf71 _) rfl h
    (try simp only [PT])
    refine seq_opw (V := .slice A_p0_ops a0.ops.length c_p0_ops) ((wanted_f rfl rfl rfl).trans (congrArg not hg1)) ?_ ?_
    · exact fun _ h => L_1 0 _ _ rfl (Tryd.isAgg71 _) rfl H rfl rfl h
    (try simp only [PT])
    refine seq_opw (V := .func (.func 149) #[] #[]) ((wanted_f rfl rfl rfl).trans (congrArg not hg1)) ?_ ?_
    · exact fun _ h => G_s1 _ _ rfl (Tryd.isAgg160 _) rfl H hC_p1 0 rfl rfl h
    (try simp only [PT])
    refine seq_callw ((wanted_f rfl rfl rfl).trans (congrArg not hg1)) (fun Φ hΦ => by refine O_call2 rfl Tryd.func153 rfl rfl rfl rfl hΦ) (slices_ContainsFunc_Op_histtext_Can_1_w (a0 := a0.ops) (h_p0 := h_p0_ops) (hm := gx1) (H := H)) ?_
    clear H
    rintro e w1 ⟨rfl, H⟩; refine ⟨_, rfl, ?_⟩
    (try simp only [PT])
    apply seq_op (V := .bool u1) rfl
    · exact fun _ h => O_pickF rfl rfl hg1 rfl h
    (try simp only [PT])
    apply seq_op (V := .bool u1) rfl
    · exact fun _ h => O_as rfl rfl h
    (try simp only [PT])
    refine list_end ?_
    refine then_norm ?_
    refine wp_ret ?_
    have hm := Option.some.inj hm
    subst hm
    replace H := H.dropAt 0 rfl; simp only [List.eraseIdx_cons_succ, List.eraseIdx_cons_zero] at H
    exact ret1 rfl (rv_tmp rfl) rfl ⟨rfl, H⟩
def slices_IndexFunc_Event_histtext_Can_2_l2  : Nat → List Ev → Option ((Int ⊕ Unit))
  | k2, []  => some (.inr ())
  | k2, x2 :: r2 => (histtext_Can_2_f x2).bind fun u1 => if u1 = true then (some (.inl (k2 : Int))) else (slices_IndexFunc_Event_histtext_Can_2_l2 (k2 + 1) r2)

def slices_IndexFunc_Event_histtext_Can_2_f (a0 : List Ev) : Option Int := (slices_IndexFunc_Event_histtext_Can_2_l2 0 a0).bind fun | .inl z2_r => (some z2_r) | .inr () => (some (-1))

set_option maxHeartbeats 4000000 in
theorem slices_IndexFunc_Event_histtext_Can_2_w {E : World} {s : SH} {L : List HP} {w : World} {a0 : List Ev} {A_p0 : Option Addr} {c_p0 : Nat} (h_p0 : kEv.Sl s (.slice A_p0 a0.length c_p0) a0) {b_p1c0 o_p1c0 : Nat} (hC_p1c0 : Cells s ⟨b_p1c0, o_p1c0, none⟩ [.func (.func 149) #[] #[]]) {R : Int} (hm : slices_IndexFunc_Event_histtext_Can_2_f a0 = some R) (H : Holds E s (L) w) :
    Calls Tryd.prog 173 #[.slice A_p0 a0.length c_p0, .func (.func 152) #[] #[.pointer (some ⟨b_p1c0, o_p1c0, none⟩)]] w fun e w' => e = .returned (.int .i64 R) ∧ Holds E s (L) w' := by
  unfold slices_IndexFunc_Event_histtext_Can_2_f at hm
  go_enter Tryd.func173, Tryd.ntmps173
  refine wp_seq ?_
  refine wp_region_lit ?_
  apply seq_op (V := .int .i64 0) rfl
  · exact fun _ h => O_as rfl rfl h
  (try simp only [PT])
  refine list_end ?_
  refine then_norm ?_
  refine wp_seq ?_
  refine wp_seq ?_
  refine wp_region_lit ?_
  apply seq_op (V := .slice A_p0 a0.length c_p0) rfl
  · exact fun _ h => O_mv rfl rfl h
  (try simp only [PT])
  apply seq_op (V := .int .i64 (a0.length : Int)) rfl
  · exact fun _ h => O_len rfl Tryd.underlying55 rfl h
  (try simp only [PT])
  apply seq_op (V := .int .i64 0) rfl
  · exact fun _ h => O_mv rfl rfl h
  (try simp only [PT])
  refine list_end ?_
  refine then_norm ?_
  refine wp_block ?_
  obtain ⟨R2, hq2, hm⟩ := bs hm
  have hn2 := Nat.le_trans (len_le (d := kEv) h_p0 (by decide)) (by decide : (140737488355328 : Nat) ≤ 9223372036854775807)
  refine wp_loopF [none, none, none, none, some 4, some 5, none, none, some 8, some 9, some 10, some 11, some 12, some 13, some 14, some 15, some 16, some 17, some 18] rfl (by simp) (fun f w => ∃ (k2 : Nat) (r2 : List Ev), a0.drop k2 = r2 ∧ f 8 = .int .i64 (k2 : Int) ∧ slices_IndexFunc_Event_histtext_Can_2_l2 k2 r2 = some R2 ∧ Holds E s (L) w) (fun f w => a0.length - (intOf (f 8)).toNat) ?_ ?_
  · exact ⟨0, a0, rfl, rfl, hq2, H⟩
  · clear H
    intro f w hI
    obtain ⟨k2, r2, hd2, hf8, hq2', H⟩ := hI
    clear hq2; have hq2 := hq2'; clear hq2'
    simp only [ovm, mixM]
    simp only [hf8]; clear hf8
    refine wp_seq ?_
    refine wp_region_lit ?_
    apply seq_op (V := .bool (decide ((k2 : Int) < (a0.length : Int)))) rfl
    · exact fun _ h => O_bin rfl rfl rfl eqg_int r_lss h
    (try simp only [PT])
    refine list_end ?_
    refine then_norm ?_
    refine wp_seq ?_
    refine wp_cond_split rfl (fun hc => ?_) (fun hc => ?_)
    · have hc1 := hc
      clear hc
      obtain ⟨x2, r2', rfl, hd2', hd2'', hl2⟩ := rng_t hd2 hc1
      rw [slices_IndexFunc_Event_histtext_Can_2_l2] at hq2
      refine wp_skip ?_
      refine then_norm ?_
      refine wp_seq ?_
      refine wp_block ?_
      refine wp_seq ?_
      refine wp_region_lit ?_
      apply seq_op (V := .int .i64 (k2 : Int)) rfl
      · exact fun _ h => O_mv rfl rfl h
      (try simp only [PT])
      apply seq_op (V := .int .i64 (k2 : Int)) rfl
      · exact fun _ h => O_as rfl rfl h
      (try simp only [PT])
      refine list_end ?_
      refine then_norm ?_
      refine wp_seq ?_
      obtain ⟨be1, oe1, A2e1, c2e1, rfl, hCe1, h0e1, h1e1, h2e1⟩ := kEv_el h_p0 hd2'
      obtain ⟨u1, gx1, hq2⟩ := bs hq2
      refine wp_region_lit ?_
      apply seq_op (V := .func (.func 152) #[] #[.pointer (some ⟨b_p1c0, o_p1c0, none⟩)]) rfl
      · exact fun _ h => O_mv rfl rfl h
      (try simp only [PT])
      apply seq_op (V := .slice (some ⟨be1, oe1, none⟩) a0.length c_p0) rfl
      · exact fun _ h => O_mv rfl rfl h
      (try simp only [PT])
      apply seq_op (V := .int .i64 (k2 : Int)) rfl
      · exact fun _ h => O_mv rfl rfl h
      (try simp only [PT])
      apply seq_op (V := .pointer (some ⟨be1, oe1 + k2 * 3, none⟩)) rfl
      · exact fun _ h => O_ix rfl Tryd.underlying55 (Tryd.sizeOf73 _) rfl rfl rfl hl2 h
      (try simp only [PT])
      apply seq_op (V := .agg #[.int .i64 x2.kind, .int .i64 x2.proc, .slice A2e1 x2.ops.length c2e1]) rfl
      · exact fun _ h => G_sN _ _ rfl (Tryd.isAgg73 _) rfl H hCe1 (Tryd.sizeOf73 _) h
      (try simp only [PT])
      refine seq_call rfl (fun Φ hΦ => by refine O_callv1 (v1 := .agg #[.int .i64 x2.kind, .int .i64 x2.proc, .slice A2e1 x2.ops.length c2e1]) rfl Tryd.func152 rfl rfl rfl rfl (by simp only [List.push_toArray, List.append_toArray, List.cons_append, List.nil_append]) hΦ) (histtext_Can_2_w (a0 := x2) (h_p0_ops := h2e1) (hC_p1 := hC_p1c0) (hm := gx1) (H := H)) ?_
      clear H
      rintro e w1 ⟨rfl, H⟩; refine ⟨_, rfl, ?_⟩
      (try simp only [PT])
      refine list_end ?_
      refine then_norm ?_
      refine wp_cond_split rfl (fun hc => ?_) (fun hc => ?_)
      · have hc2 := hc
        clear hc
        replace hq2 := ifT hc2 hq2
        refine wp_seq ?_
        refine wp_region_lit ?_
        apply seq_op (V := .int .i64 (k2 : Int)) rfl
        · exact fun _ h => O_mv rfl rfl h
        (try simp only [PT])
        apply seq_op (V := .int .i64 (k2 : Int)) rfl
        · exact fun _ h => O_as rfl rfl h
        (try simp only [PT])
        refine list_end ?_
        refine then_norm ?_
        refine wp_ret ?_
        refine block_ret ?_
        refine then_ret ?_
        refine then_ret ?_
        refine block_ret ?_
        refine then_ret ?_
        have hq2 := Option.some.inj hq2
        subst hq2
        (try dsimp only at hm)
        have hm := Option.some.inj hm
        subst hm
        exact ret1 rfl (rv_tmp rfl) rfl ⟨rfl, H⟩
      · have hc2 := hc
        clear hc
        replace hq2 := ifF hc2 hq2
        refine wp_skip ?_
        refine block_norm ?_
        refine then_norm ?_
        refine wp_region_lit ?_
        apply seq_op (V := .int .i64 (IntKind.i64.wrap ((k2 : Int) + 1))) rfl
        · exact fun _ h => O_bin rfl rfl rfl eqg_int r_add h
        (try simp only [PT])
        apply seq_op (V := .int .i64 (IntKind.i64.wrap ((k2 : Int) + 1))) rfl
        · exact fun _ h => O_mv rfl rfl h
        (try simp only [PT])
        refine list_end ?_
        refine then_norm ?_
        refine ⟨⟨⟨rfl, rfl, rfl, rfl, rfl, rfl, rfl⟩, rfl⟩, ⟨k2 + 1, _, hd2'', wrap_succ hl2 hn2, hq2, H⟩, ?_⟩
        exact meas_succ hl2 hn2
    · have hc1 := hc
      clear hc
      obtain rfl := rng_f hd2 hc1
      rw [slices_IndexFunc_Event_histtext_Can_2_l2] at hq2
      refine wp_exit ?_
      refine then_exit ?_
      refine then_exit ?_
      have hq2 := Option.some.inj hq2
      subst hq2
      (try dsimp only at hm)
      refine block_exit ?_
      refine then_norm ?_
      refine wp_seq ?_
      refine wp_region_lit ?_
      apply seq_op (V := .int .i64 (-1)) rfl
      · exact fun _ h => O_as rfl rfl h
      (try simp only [PT])
      refine list_end ?_
      refine then_norm ?_
      refine wp_ret ?_
      have hm := Option.some.inj hm
      subst hm
      exact ret1 rfl (rv_tmp rfl) rfl ⟨rfl, H⟩
def slices_ContainsFunc_Event_histtext_Can_2_f (a0 : List Ev) : Option Bool := (slices_IndexFunc_Event_histtext_Can_2_f a0).bind fun u1 => some (decide (u1 ≥ 0))

set_option maxHeartbeats 4000000 in
theorem slices_ContainsFunc_Event_histtext_Can_2_w {E : World} {s : SH} {L : List HP} {w : World} {a0 : List Ev} {A_p0 : Option Addr} {c_p0 : Nat} (h_p0 : kEv.Sl s (.slice A_p0 a0.length c_p0) a0) {b_p1c0 o_p1c0 : Nat} (hC_p1c0 : Cells s ⟨b_p1c0, o_p1c0, none⟩ [.func (.func 149) #[] #[]]) {R : Bool} (hm : slices_ContainsFunc_Event_histtext_Can_2_f a0 = some R) (H : Holds E s (L) w) :
    Calls Tryd.prog 151 #[.slice A_p0 a0.length c_p0, .func (.func 152) #[] #[.pointer (some ⟨b_p1c0, o_p1c0, none⟩)]] w fun e w' => e = .returned (.bool R) ∧ Holds E s (L) w' := by
  unfold slices_ContainsFunc_Event_histtext_Can_2_f at hm
  go_enter Tryd.func151, Tryd.ntmps151
  refine wp_seq ?_
  refine wp_region_lit ?_
  apply seq_op (V := .bool false) rfl
  · exact fun _ h => O_as rfl rfl h
  (try simp only [PT])
  refine list_end ?_
  refine then_norm ?_
  refine wp_seq ?_
  obtain ⟨u1, gx1, hm⟩ := bs hm
  refine wp_region_lit ?_
  apply seq_op (V := .slice A_p0 a0.length c_p0) rfl
  · exact fun _ h => O_mv rfl rfl h
  (try simp only [PT])
  apply seq_op (V := .func (.func 152) #[] #[.pointer (some ⟨b_p1c0, o_p1c0, none⟩)]) rfl
  · exact fun _ h => O_mv rfl rfl h
  (try simp only [PT])
  refine seq_call rfl (fun Φ hΦ => by refine O_call2 rfl Tryd.func173 rfl rfl rfl rfl hΦ) (slices_IndexFunc_Event_histtext_Can_2_w (a0 := a0) (h_p0 := h_p0) (hC_p1c0 := hC_p1c0) (hm := gx1) (H := H)) ?_
  clear H
  rintro e w1 ⟨rfl, H⟩; refine ⟨_, rfl, ?_⟩
  (try simp only [PT])
  apply seq_op (V := .bool (decide (u1 ≥ 0))) rfl
  · exact fun _ h => O_bin rfl rfl rfl eqg_int r_geq h
  (try simp only [PT])
  apply seq_op (V := .bool (decide (u1 ≥ 0))) rfl
  · exact fun _ h => O_as rfl rfl h
  (try simp only [PT])
  refine list_end ?_
  refine then_norm ?_
  refine wp_ret ?_
  have hm := Option.some.inj hm
  subst hm
  exact ret1 rfl (rv_tmp rfl) rfl ⟨rfl, H⟩
def histtext_Can_f (a0 : List Ev) : Option Bool := if (decide ((a0.length : Int) ≤ 300)) = true then ((slices_ContainsFunc_Event_histtext_Can_2_f a0).bind fun u1 => some (!u1)) else (some false)

set_option maxHeartbeats 4000000 in
theorem histtext_Can_w {E : World} {s : SH} {L : List HP} {w : World} {a0 : List Ev} {A_p0 : Option Addr} {c_p0 : Nat} (h_p0 : kEv.Sl s (.slice A_p0 a0.length c_p0) a0) {R : Bool} (hm : histtext_Can_f a0 = some R) (H : Holds E s (L) w) :
    Calls Tryd.prog 116 #[.slice A_p0 a0.length c_p0] w fun e w' => e = .returned (.bool R) ∧ Holds E s (L) w' := by
  unfold histtext_Can_f at hm
  go_enter Tryd.func116, Tryd.ntmps116
  refine wp_seq ?_
  refine wp_region_lit ?_
  apply seq_op (V := .bool false) rfl
  · exact fun _ h => O_as rfl rfl h
  (try simp only [PT])
  refine list_end ?_
  refine then_norm ?_
  refine wp_seq ?_
  refine wp_region_lit ?_
  refine OpG.list rfl ?_; refine G_alloc 160 rfl (Tryd.zeroValue160 _) H ?_; clear H; intro b3 w1 H; (try simp only [Value.cells] at H)
  (try simp only [PT])
  refine OpG.list rfl ?_; refine S_1f 0 _ _ rfl (Tryd.sizeOf160 _) rfl  H rfl ?_ ?_ ?_; (focus (first | rfl | (simp [Value.oneCell']; done))); (focus (simp; done)); clear H; intro w1 H; simp only [List.set_cons_succ, List.set_cons_zero] at H
  (try simp only [PT])
  refine list_end ?_
  refine then_norm ?_
  refine wp_seq ?_
  rcases Bool.eq_false_or_eq_true (decide ((a0.length : Int) ≤ 300)) with hg1 | hg1
  · replace hm := ifT hg1 hm
    obtain ⟨u1, gx1, hm⟩ := bs hm
    refine wp_region_lit ?_
    apply seq_op (V := .slice A_p0 a0.length c_p0) rfl
    · exact fun _ h => O_mv rfl rfl h
    (try simp only [PT])
    apply seq_op (V := .int .i64 (a0.length : Int)) rfl
    · exact fun _ h => O_len rfl Tryd.underlying55 rfl h
    (try simp only [PT])
    apply seq_op (V := .bool (decide ((a0.length : Int) ≤ 300))) rfl
    · exact fun _ h => O_bin rfl rfl rfl eqg_int r_leq h
    (try simp only [PT])
    apply seq_op (V := .bool (decide ((a0.length : Int) ≤ 300))) rfl
    · exact fun _ h => O_mv rfl rfl h
    (try simp only [PT])
    refine seq_opw (V := .slice A_p0 a0.length c_p0) ((wanted_t rfl rfl rfl).trans hg1) ?_ ?_
    · exact fun _ h => O_mv rfl rfl h
    (try simp only [PT])
    refine seq_opw (V := .func (.func 152) #[] #[.pointer (some ⟨b3, 0, none⟩)]) ((wanted_t rfl rfl rfl).trans hg1) ?_ ?_
    · intro Φ hΦ; refine O_mkf (vs := #[.pointer (some ⟨b3, 0, none⟩)]) rfl (by (simp only [List.map_toArray, List.map_cons, List.map_nil]) <;> rfl) ?_; exact hΦ
    (try simp only [PT])
    refine seq_opHw (V := .bool u1) H ((wanted_t rfl rfl rfl).trans hg1) ?_ ?_
    · intro Φ hΦ; refine O_call2 rfl Tryd.func151 rfl rfl rfl rfl ?_; obtain ⟨sl0, hsl0, hb0, H, bk0, bg0⟩ := lendAt 0 rfl H; simp only [List.eraseIdx_cons_succ, List.eraseIdx_cons_zero, List.cons_append] at H bk0; refine (slices_ContainsFunc_Event_histtext_Can_2_w (a0 := a0) (h_p0 := (h_p0.mono hsl0)) (hC_p1c0 := (Cells.ofB hb0)) (hm := gx1) (H := H)).mono ?_; rintro e w2 ⟨rfl, H⟩; have H := bk0 H; exact ⟨_, rfl, hΦ _ H⟩
    clear H; intro w1 H
    (try simp only [PT])
    refine seq_opw (V := .bool (!u1)) ((wanted_t rfl rfl rfl).trans hg1) ?_ ?_
    · exact fun _ h => O_not rfl rfl h
    (try simp only [PT])
    apply seq_op (V := .bool (!u1)) rfl
    · exact fun _ h => O_pickT rfl rfl hg1 rfl h
    (try simp only [PT])
    apply seq_op (V := .bool (!u1)) rfl
    · exact fun _ h => O_as rfl rfl h
    (try simp only [PT])
    refine list_end ?_
    refine then_norm ?_
    refine wp_ret ?_
    have hm := Option.some.inj hm
    subst hm
    replace H := H.dropAt 0 rfl; simp only [List.eraseIdx_cons_succ, List.eraseIdx_cons_zero] at H
    exact ret1 rfl (rv_tmp rfl) rfl ⟨rfl, H⟩
  · replace hm := ifF hg1 hm
    refine wp_region_lit ?_
    apply seq_op (V := .slice A_p0 a0.length c_p0) rfl
    · exact fun _ h => O_mv rfl rfl h
    (try simp only [PT])
    apply seq_op (V := .int .i64 (a0.length : Int)) rfl
    · exact fun _ h => O_len rfl Tryd.underlying55 rfl h
    (try simp only [PT])
    apply seq_op (V := .bool (decide ((a0.length : Int) ≤ 300))) rfl
    · exact fun _ h => O_bin rfl rfl rfl eqg_int r_leq h
    (try simp only [PT])
    apply seq_op (V := .bool (decide ((a0.length : Int) ≤ 300))) rfl
    · exact fun _ h => O_mv rfl rfl h
    (try simp only [PT])
    refine seq_skip ((wanted_t rfl rfl rfl).trans hg1) ?_
    (try simp only [PT])
    refine seq_skip ((wanted_t rfl rfl rfl).trans hg1) ?_
    (try simp only [PT])
    refine seq_skip ((wanted_t rfl rfl rfl).trans hg1) ?_
    (try simp only [PT])
    refine seq_skip ((wanted_t rfl rfl rfl).trans hg1) ?_
    (try simp only [PT])
    apply seq_op (V := .bool false) rfl
    · exact fun _ h => O_pickF rfl rfl hg1 rfl h
    (try simp only [PT])
    apply seq_op (V := .bool false) rfl
    · exact fun _ h => O_as rfl rfl h
    (try simp only [PT])
    refine list_end ?_
    refine then_norm ?_
    refine wp_ret ?_
    have hm := Option.some.inj hm
    subst hm
    replace H := H.dropAt 0 rfl; simp only [List.eraseIdx_cons_succ, List.eraseIdx_cons_zero] at H
    exact ret1 rfl (rv_tmp rfl) rfl ⟨rfl, H⟩
def pair_reads_f (a0 : Op') : Bool := ((a0.kind == 2) || (a0.kind == 4))

set_option maxHeartbeats 4000000 in
theorem pair_reads_w {E : World} {s : SH} {L : List HP} {w : World} {a0 : Op'} {A_p0_list : Option Addr} {c_p0_list : Nat} (h_p0_list : kI.Sl s (.slice A_p0_list a0.list.length c_p0_list) a0.list) (H : Holds E s (L) w) :
    Calls Tryd.prog 155 #[.agg #[.int .i64 a0.kind, .string a0.key, .int .i64 a0.value, .slice A_p0_list a0.list.length c_p0_list, .bool a0.has, .bool a0.isNil]] w fun e w' => e = .returned (.bool (pair_reads_f a0)) ∧ Holds E s (L) w' := by
  obtain ⟨R, hm⟩ : ∃ R, pair_reads_f a0 = R := ⟨_, rfl⟩
  (try rw [hm])
  unfold pair_reads_f at hm
  go_enter Tryd.func155, Tryd.ntmps155
  refine wp_seq ?_
  refine wp_region_lit ?_
  refine OpG.list rfl ?_; refine B_x 108 _ rfl (v := .agg #[.int .i64 a0.kind, .string a0.key, .int .i64 a0.value, .slice A_p0_list a0.list.length c_p0_list, .bool a0.has, .bool a0.isNil]) rfl H ?_; clear H; intro b1 w1 H; (try simp only [Value.cells] at H)
  (try simp only [PT])
  apply seq_op (V := .bool false) rfl
  · exact fun _ h => O_as rfl rfl h
  (try simp only [PT])
  refine list_end ?_
  refine then_norm ?_
  refine wp_seq ?_
  refine wp_region_lit ?_
  apply seq_op (V := .pointer (some ⟨b1, 0, none⟩)) rfl
  · exact fun _ h => O_fld rfl Tryd.underlying108 rfl (Tryd.sizeOf3 _) rfl h
  (try simp only [PT])
  apply seq_op (V := .int .i64 a0.kind) rfl
  · exact fun _ h => L_1 0 _ _ rfl (Tryd.isAgg3 _) rfl H rfl rfl h
  (try simp only [PT])
  apply seq_op (V := .bool (a0.kind == 2)) rfl
  · exact fun _ h => O_bin rfl rfl rfl eqg_int r_eql h
  (try simp only [PT])
  apply seq_op (V := .bool (a0.kind == 2)) rfl
  · exact fun _ h => O_mv rfl rfl h
  (try simp only [PT])
  refine seq_opg (c := (!(a0.kind == 2))) (V := .pointer (some ⟨b1, 0, none⟩)) (by first | exact wanted_f rfl rfl rfl | exact wanted_vf rfl rfl rfl) ?_ ?_
  · intro hc Φ hΦ; refine O_fld rfl Tryd.underlying108 rfl (Tryd.sizeOf3 _) rfl ?_; exact hΦ
  (try simp only [PT])
  refine seq_opg (c := (!(a0.kind == 2))) (V := .int .i64 a0.kind) (by first | exact wanted_f rfl rfl rfl | exact wanted_vf rfl rfl rfl) ?_ ?_
  · intro hc Φ hΦ; (repeat (first | rw [vg_of hc] | rw [vg_of (and_l hc)] | rw [vg_of (and_l (and_l hc))] | rw [vg_of (and_l (and_l (and_l hc)))] | rw [vg_and hc])); refine L_1 0 _ _ rfl (Tryd.isAgg3 _) rfl H rfl rfl ?_; exact hΦ
  (try simp only [PT])
  refine seq_opg (c := (!(a0.kind == 2))) (V := .bool (a0.kind == 4)) (by first | exact wanted_f rfl rfl rfl | exact wanted_vf rfl rfl rfl) ?_ ?_
  · intro hc Φ hΦ; (repeat (first | rw [vg_of hc] | rw [vg_of (and_l hc)] | rw [vg_of (and_l (and_l hc))] | rw [vg_of (and_l (and_l (and_l hc)))] | rw [vg_and hc])); refine O_bin rfl rfl rfl eqg_int r_eql ?_; exact hΦ
  (try simp only [PT])
  apply seq_op (V := .bool ((a0.kind == 2) || (a0.kind == 4))) rfl
  · exact fun _ h => G_or _ _ _ rfl rfl rfl rfl h
  (try simp only [PT])
  apply seq_op (V := .bool ((a0.kind == 2) || (a0.kind == 4))) rfl
  · exact fun _ h => O_as rfl rfl h
  (try simp only [PT])
  refine list_end ?_
  refine then_norm ?_
  refine wp_ret ?_
  subst hm
  replace H := H.dropAt 0 rfl; simp only [List.eraseIdx_cons_succ, List.eraseIdx_cons_zero] at H
  exact ret1 rfl (rv_tmp rfl) rfl ⟨rfl, H⟩
def pair_table_event_1_f (a0 : Op') : Bool := ((pair_reads_f a0) && a0.has)

set_option maxHeartbeats 4000000 in
theorem pair_table_event_1_w {E : World} {s : SH} {L : List HP} {w : World} {a0 : Op'} {A_p0_list : Option Addr} {c_p0_list : Nat} (h_p0_list : kI.Sl s (.slice A_p0_list a0.list.length c_p0_list) a0.list) (H : Holds E s (L) w) :
    Calls Tryd.prog 154 #[.agg #[.int .i64 a0.kind, .string a0.key, .int .i64 a0.value, .slice A_p0_list a0.list.length c_p0_list, .bool a0.has, .bool a0.isNil]] w fun e w' => e = .returned (.bool (pair_table_event_1_f a0)) ∧ Holds E s (L) w' := by
  obtain ⟨R, hm⟩ : ∃ R, pair_table_event_1_f a0 = R := ⟨_, rfl⟩
  (try rw [hm])
  unfold pair_table_event_1_f at hm
  go_enter Tryd.func154, Tryd.ntmps154
  refine wp_seq ?_
  refine wp_region_lit ?_
  refine OpG.list rfl ?_; refine B_x 108 _ rfl (v := .agg #[.int .i64 a0.kind, .string a0.key, .int .i64 a0.value, .slice A_p0_list a0.list.length c_p0_list, .bool a0.has, .bool a0.isNil]) rfl H ?_; clear H; intro b1 w1 H; (try simp only [Value.cells] at H)
  (try simp only [PT])
  apply seq_op (V := .bool false) rfl
  · exact fun _ h => O_as rfl rfl h
  (try simp only [PT])
  refine list_end ?_
  refine then_norm ?_
  refine wp_seq ?_
  refine wp_region_lit ?_
  apply seq_op (V := .agg #[.int .i64 a0.kind, .string a0.key, .int .i64 a0.value, .slice A_p0_list a0.list.length c_p0_list, .bool a0.has, .bool a0.isNil]) rfl
  · exact fun _ h => G_pNi 0 _ _ rfl (Tryd.isAgg108 _) rfl H rfl (Tryd.sizeOf108 _) h
  (try simp only [PT])
  refine seq_call rfl (fun Φ hΦ => by refine O_call1 rfl Tryd.func155 rfl rfl rfl hΦ) (pair_reads_w (a0 := a0) (h_p0_list := h_p0_list) (H := H)) ?_
  clear H
  rintro e w1 ⟨rfl, H⟩; refine ⟨_, rfl, ?_⟩
  (try simp only [PT])
  apply seq_op (V := .bool (pair_reads_f a0)) rfl
  · exact fun _ h => O_mv rfl rfl h
  (try simp only [PT])
  refine seq_opg (c := (pair_reads_f a0)) (V := .pointer (some ⟨b1, 4, none⟩)) (by first | exact wanted_t rfl rfl rfl | exact wanted_vt rfl rfl rfl) ?_ ?_
  · intro hc Φ hΦ; refine O_fld rfl Tryd.underlying108 rfl (Tryd.sizeOf4 _) rfl ?_; exact hΦ
  (try simp only [PT])
  refine seq_opg (c := (pair_reads_f a0)) (V := .bool a0.has) (by first | exact wanted_t rfl rfl rfl | exact wanted_vt rfl rfl rfl) ?_ ?_
  · intro hc Φ hΦ; (repeat (first | rw [vg_of hc] | rw [vg_of (and_l hc)] | rw [vg_of (and_l (and_l hc))] | rw [vg_of (and_l (and_l (and_l hc)))] | rw [vg_and hc])); refine L_1 0 _ _ rfl (Tryd.isAgg4 _) rfl H rfl rfl ?_; exact hΦ
  (try simp only [PT])
  apply seq_op (V := .bool ((pair_reads_f a0) && a0.has)) rfl
  · exact fun _ h => G_and _ _ _ rfl rfl rfl rfl h
  (try simp only [PT])
  apply seq_op (V := .bool ((pair_reads_f a0) && a0.has)) rfl
  · exact fun _ h => O_as rfl rfl h
  (try simp only [PT])
  refine list_end ?_
  refine then_norm ?_
  refine wp_ret ?_
  subst hm
  replace H := H.dropAt 0 rfl; simp only [List.eraseIdx_cons_succ, List.eraseIdx_cons_zero] at H
  exact ret1 rfl (rv_tmp rfl) rfl ⟨rfl, H⟩
def slices_IndexFunc_Op_pair_table_event_1_l2  : Nat → List Op' → (Int ⊕ Unit)
  | k2, []  => .inr ()
  | k2, x2 :: r2 => if (pair_table_event_1_f x2) = true then (.inl (k2 : Int)) else (slices_IndexFunc_Op_pair_table_event_1_l2 (k2 + 1) r2)

def slices_IndexFunc_Op_pair_table_event_1_f (a0 : List Op') : Int := letF (slices_IndexFunc_Op_pair_table_event_1_l2 0 a0) fun | .inl z2_r => z2_r | .inr () => (-1)

set_option maxHeartbeats 4000000 in
theorem slices_IndexFunc_Op_pair_table_event_1_w {E : World} {s : SH} {L : List HP} {w : World} {a0 : List Op'} {A_p0 : Option Addr} {c_p0 : Nat} (h_p0 : kOp.Sl s (.slice A_p0 a0.length c_p0) a0) (H : Holds E s (L) w) :
    Calls Tryd.prog 174 #[.slice A_p0 a0.length c_p0, .func (.func 154) #[] #[]] w fun e w' => e = .returned (.int .i64 (slices_IndexFunc_Op_pair_table_event_1_f a0)) ∧ Holds E s (L) w' := by
  obtain ⟨R, hm⟩ : ∃ R, slices_IndexFunc_Op_pair_table_event_1_f a0 = R := ⟨_, rfl⟩
  (try rw [hm])
  unfold slices_IndexFunc_Op_pair_table_event_1_f at hm
  go_enter Tryd.func174, Tryd.ntmps174
  refine wp_seq ?_
  refine wp_region_lit ?_
  apply seq_op (V := .int .i64 0) rfl
  · exact fun _ h => O_as rfl rfl h
  (try simp only [PT])
  refine list_end ?_
  refine then_norm ?_
  refine wp_seq ?_
  refine wp_seq ?_
  refine wp_region_lit ?_
  apply seq_op (V := .slice A_p0 a0.length c_p0) rfl
  · exact fun _ h => O_mv rfl rfl h
  (try simp only [PT])
  apply seq_op (V := .int .i64 (a0.length : Int)) rfl
  · exact fun _ h => O_len rfl Tryd.underlying71 rfl h
  (try simp only [PT])
  apply seq_op (V := .int .i64 0) rfl
  · exact fun _ h => O_mv rfl rfl h
  (try simp only [PT])
  refine list_end ?_
  refine then_norm ?_
  refine wp_block ?_
  obtain ⟨R2, hq2, hm⟩ := lfe hm
  have hn2 := Nat.le_trans (len_le (d := kOp) h_p0 (by decide)) (by decide : (140737488355328 : Nat) ≤ 9223372036854775807)
  refine wp_loopF [none, none, none, none, some 4, some 5, none, none, some 8, some 9, some 10, some 11, some 12, some 13, some 14, some 15, some 16, some 17, some 18] rfl (by simp) (fun f w => ∃ (k2 : Nat) (r2 : List Op'), a0.drop k2 = r2 ∧ f 8 = .int .i64 (k2 : Int) ∧ slices_IndexFunc_Op_pair_table_event_1_l2 k2 r2 = R2 ∧ Holds E s (L) w) (fun f w => a0.length - (intOf (f 8)).toNat) ?_ ?_
  · exact ⟨0, a0, rfl, rfl, hq2, H⟩
  · clear H
    intro f w hI
    obtain ⟨k2, r2, hd2, hf8, hq2', H⟩ := hI
    clear hq2; have hq2 := hq2'; clear hq2'
    simp only [ovm, mixM]
    simp only [hf8]; clear hf8
    refine wp_seq ?_
    refine wp_region_lit ?_
    apply seq_op (V := .bool (decide ((k2 : Int) < (a0.length : Int)))) rfl
    · exact fun _ h => O_bin rfl rfl rfl eqg_int r_lss h
    (try simp only [PT])
    refine list_end ?_
    refine then_norm ?_
    refine wp_seq ?_
    refine wp_cond_split rfl (fun hc => ?_) (fun hc => ?_)
    · have hc1 := hc
      clear hc
      obtain ⟨x2, r2', rfl, hd2', hd2'', hl2⟩ := rng_t hd2 hc1
      rw [slices_IndexFunc_Op_pair_table_event_1_l2] at hq2
      refine wp_skip ?_
      refine then_norm ?_
      refine wp_seq ?_
      refine wp_block ?_
      refine wp_seq ?_
      refine wp_region_lit ?_
      apply seq_op (V := .int .i64 (k2 : Int)) rfl
      · exact fun _ h => O_mv rfl rfl h
      (try simp only [PT])
      apply seq_op (V := .int .i64 (k2 : Int)) rfl
      · exact fun _ h => O_as rfl rfl h
      (try simp only [PT])
      refine list_end ?_
      refine then_norm ?_
      refine wp_seq ?_
      obtain ⟨be1, oe1, A3e1, c3e1, rfl, hCe1, h0e1, h1e1, h2e1, h3e1⟩ := kOp_el h_p0 hd2'
      refine wp_region_lit ?_
      apply seq_op (V := .func (.func 154) #[] #[]) rfl
      · exact fun _ h => O_mv rfl rfl h
      (try simp only [PT])
      apply seq_op (V := .slice (some ⟨be1, oe1, none⟩) a0.length c_p0) rfl
      · exact fun _ h => O_mv rfl rfl h
      (try simp only [PT])
      apply seq_op (V := .int .i64 (k2 : Int)) rfl
      · exact fun _ h => O_mv rfl rfl h
      (try simp only [PT])
      apply seq_op (V := .pointer (some ⟨be1, oe1 + k2 * 6, none⟩)) rfl
      · exact fun _ h => O_ix rfl Tryd.underlying71 (Tryd.sizeOf108 _) rfl rfl rfl hl2 h
      (try simp only [PT])
      apply seq_op (V := .agg #[.int .i64 x2.kind, .string x2.key, .int .i64 x2.value, .slice A3e1 x2.list.length c3e1, .bool x2.has, .bool x2.isNil]) rfl
      · exact fun _ h => G_sN _ _ rfl (Tryd.isAgg108 _) rfl H hCe1 (Tryd.sizeOf108 _) h
      (try simp only [PT])
      refine seq_call rfl (fun Φ hΦ => by refine O_callv1 (args := #[.agg #[.int .i64 x2.kind, .string x2.key, .int .i64 x2.value, .slice A3e1 x2.list.length c3e1, .bool x2.has, .bool x2.isNil]]) (v1 := .agg #[.int .i64 x2.kind, .string x2.key, .int .i64 x2.value, .slice A3e1 x2.list.length c3e1, .bool x2.has, .bool x2.isNil]) rfl Tryd.func154 rfl rfl rfl rfl (by simp only [Array.append_empty]) hΦ) (pair_table_event_1_w (a0 := x2) (h_p0_list := h3e1) (H := H)) ?_
      clear H
      rintro e w1 ⟨rfl, H⟩; refine ⟨_, rfl, ?_⟩
      (try simp only [PT])
      refine list_end ?_
      refine then_norm ?_
      refine wp_cond_split rfl (fun hc => ?_) (fun hc => ?_)
      · have hc2 := hc
        clear hc
        replace hq2 := ifT hc2 hq2
        refine wp_seq ?_
        refine wp_region_lit ?_
        apply seq_op (V := .int .i64 (k2 : Int)) rfl
        · exact fun _ h => O_mv rfl rfl h
        (try simp only [PT])
        apply seq_op (V := .int .i64 (k2 : Int)) rfl
        · exact fun _ h => O_as rfl rfl h
        (try simp only [PT])
        refine list_end ?_
        refine then_norm ?_
        refine wp_ret ?_
        refine block_ret ?_
        refine then_ret ?_
        refine then_ret ?_
        refine block_ret ?_
        refine then_ret ?_
        subst hq2
        (try dsimp only at hm)
        subst hm
        exact ret1 rfl (rv_tmp rfl) rfl ⟨rfl, H⟩
      · have hc2 := hc
        clear hc
        replace hq2 := ifF hc2 hq2
        refine wp_skip ?_
        refine block_norm ?_
        refine then_norm ?_
        refine wp_region_lit ?_
        apply seq_op (V := .int .i64 (IntKind.i64.wrap ((k2 : Int) + 1))) rfl
        · exact fun _ h => O_bin rfl rfl rfl eqg_int r_add h
        (try simp only [PT])
        apply seq_op (V := .int .i64 (IntKind.i64.wrap ((k2 : Int) + 1))) rfl
        · exact fun _ h => O_mv rfl rfl h
        (try simp only [PT])
        refine list_end ?_
        refine then_norm ?_
        refine ⟨⟨⟨rfl, rfl, rfl, rfl, rfl, rfl, rfl⟩, rfl⟩, ⟨k2 + 1, _, hd2'', wrap_succ hl2 hn2, hq2, H⟩, ?_⟩
        exact meas_succ hl2 hn2
    · have hc1 := hc
      clear hc
      obtain rfl := rng_f hd2 hc1
      rw [slices_IndexFunc_Op_pair_table_event_1_l2] at hq2
      refine wp_exit ?_
      refine then_exit ?_
      refine then_exit ?_
      subst hq2
      (try dsimp only at hm)
      refine block_exit ?_
      refine then_norm ?_
      refine wp_seq ?_
      refine wp_region_lit ?_
      apply seq_op (V := .int .i64 (-1)) rfl
      · exact fun _ h => O_as rfl rfl h
      (try simp only [PT])
      refine list_end ?_
      refine then_norm ?_
      refine wp_ret ?_
      subst hm
      exact ret1 rfl (rv_tmp rfl) rfl ⟨rfl, H⟩
def slices_ContainsFunc_Op_pair_table_event_1_f (a0 : List Op') : Bool := (decide ((slices_IndexFunc_Op_pair_table_event_1_f a0) ≥ 0))

set_option maxHeartbeats 4000000 in
theorem slices_ContainsFunc_Op_pair_table_event_1_w {E : World} {s : SH} {L : List HP} {w : World} {a0 : List Op'} {A_p0 : Option Addr} {c_p0 : Nat} (h_p0 : kOp.Sl s (.slice A_p0 a0.length c_p0) a0) (H : Holds E s (L) w) :
    Calls Tryd.prog 153 #[.slice A_p0 a0.length c_p0, .func (.func 154) #[] #[]] w fun e w' => e = .returned (.bool (slices_ContainsFunc_Op_pair_table_event_1_f a0)) ∧ Holds E s (L) w' := by
  obtain ⟨R, hm⟩ : ∃ R, slices_ContainsFunc_Op_pair_table_event_1_f a0 = R := ⟨_, rfl⟩
  (try rw [hm])
  unfold slices_ContainsFunc_Op_pair_table_event_1_f at hm
  go_enter Tryd.func153, Tryd.ntmps153
  refine wp_seq ?_
  refine wp_region_lit ?_
  apply seq_op (V := .bool false) rfl
  · exact fun _ h => O_as rfl rfl h
  (try simp only [PT])
  refine list_end ?_
  refine then_norm ?_
  refine wp_seq ?_
  refine wp_region_lit ?_
  apply seq_op (V := .slice A_p0 a0.length c_p0) rfl
  · exact fun _ h => O_mv rfl rfl h
  (try simp only [PT])
  apply seq_op (V := .func (.func 154) #[] #[]) rfl
  · exact fun _ h => O_mv rfl rfl h
  (try simp only [PT])
  refine seq_call rfl (fun Φ hΦ => by refine O_call2 rfl Tryd.func174 rfl rfl rfl rfl hΦ) (slices_IndexFunc_Op_pair_table_event_1_w (a0 := a0) (h_p0 := h_p0) (H := H)) ?_
  clear H
  rintro e w1 ⟨rfl, H⟩; refine ⟨_, rfl, ?_⟩
  (try simp only [PT])
  apply seq_op (V := .bool (decide ((slices_IndexFunc_Op_pair_table_event_1_f a0) ≥ 0))) rfl
  · exact fun _ h => O_bin rfl rfl rfl eqg_int r_geq h
  (try simp only [PT])
  apply seq_op (V := .bool (decide ((slices_IndexFunc_Op_pair_table_event_1_f a0) ≥ 0))) rfl
  · exact fun _ h => O_as rfl rfl h
  (try simp only [PT])
  refine list_end ?_
  refine then_norm ?_
  refine wp_ret ?_
  subst hm
  exact ret1 rfl (rv_tmp rfl) rfl ⟨rfl, H⟩
def pair_table_event_2_f (a0 : Op') : Bool := ((pair_reads_f a0) && (!a0.has))

set_option maxHeartbeats 4000000 in
theorem pair_table_event_2_w {E : World} {s : SH} {L : List HP} {w : World} {a0 : Op'} {A_p0_list : Option Addr} {c_p0_list : Nat} (h_p0_list : kI.Sl s (.slice A_p0_list a0.list.length c_p0_list) a0.list) (H : Holds E s (L) w) :
    Calls Tryd.prog 156 #[.agg #[.int .i64 a0.kind, .string a0.key, .int .i64 a0.value, .slice A_p0_list a0.list.length c_p0_list, .bool a0.has, .bool a0.isNil]] w fun e w' => e = .returned (.bool (pair_table_event_2_f a0)) ∧ Holds E s (L) w' := by
  obtain ⟨R, hm⟩ : ∃ R, pair_table_event_2_f a0 = R := ⟨_, rfl⟩
  (try rw [hm])
  unfold pair_table_event_2_f at hm
  go_enter Tryd.func156, Tryd.ntmps156
  refine wp_seq ?_
  refine wp_region_lit ?_
  refine OpG.list rfl ?_; refine B_x 108 _ rfl (v := .agg #[.int .i64 a0.kind, .string a0.key, .int .i64 a0.value, .slice A_p0_list a0.list.length c_p0_list, .bool a0.has, .bool a0.isNil]) rfl H ?_; clear H; intro b1 w1 H; (try simp only [Value.cells] at H)
  (try simp only [PT])
  apply seq_op (V := .bool false) rfl
  · exact fun _ h => O_as rfl rfl h
  (try simp only [PT])
  refine list_end ?_
  refine then_norm ?_
  refine wp_seq ?_
  refine wp_region_lit ?_
  apply seq_op (V := .agg #[.int .i64 a0.kind, .string a0.key, .int .i64 a0.value, .slice A_p0_list a0.list.length c_p0_list, .bool a0.has, .bool a0.isNil]) rfl
  · exact fun _ h => G_pNi 0 _ _ rfl (Tryd.isAgg108 _) rfl H rfl (Tryd.sizeOf108 _) h
  (try simp only [PT])
  refine seq_call rfl (fun Φ hΦ => by refine O_call1 rfl Tryd.func155 rfl rfl rfl hΦ) (pair_reads_w (a0 := a0) (h_p0_list := h_p0_list) (H := H)) ?_
  clear H
  rintro e w1 ⟨rfl, H⟩; refine ⟨_, rfl, ?_⟩
  (try simp only [PT])
  apply seq_op (V := .bool (pair_reads_f a0)) rfl
  · exact fun _ h => O_mv rfl rfl h
  (try simp only [PT])
  refine seq_opg (c := (pair_reads_f a0)) (V := .pointer (some ⟨b1, 4, none⟩)) (by first | exact wanted_t rfl rfl rfl | exact wanted_vt rfl rfl rfl) ?_ ?_
  · intro hc Φ hΦ; refine O_fld rfl Tryd.underlying108 rfl (Tryd.sizeOf4 _) rfl ?_; exact hΦ
  (try simp only [PT])
  refine seq_opg (c := (pair_reads_f a0)) (V := .bool a0.has) (by first | exact wanted_t rfl rfl rfl | exact wanted_vt rfl rfl rfl) ?_ ?_
  · intro hc Φ hΦ; (repeat (first | rw [vg_of hc] | rw [vg_of (and_l hc)] | rw [vg_of (and_l (and_l hc))] | rw [vg_of (and_l (and_l (and_l hc)))] | rw [vg_and hc])); refine L_1 0 _ _ rfl (Tryd.isAgg4 _) rfl H rfl rfl ?_; exact hΦ
  (try simp only [PT])
  refine seq_opg (c := (pair_reads_f a0)) (V := .bool (!a0.has)) (by first | exact wanted_t rfl rfl rfl | exact wanted_vt rfl rfl rfl) ?_ ?_
  · intro hc Φ hΦ; (repeat (first | rw [vg_of hc] | rw [vg_of (and_l hc)] | rw [vg_of (and_l (and_l hc))] | rw [vg_of (and_l (and_l (and_l hc)))] | rw [vg_and hc])); refine O_not rfl rfl ?_; exact hΦ
  (try simp only [PT])
  apply seq_op (V := .bool ((pair_reads_f a0) && (!a0.has))) rfl
  · exact fun _ h => G_and _ _ _ rfl rfl rfl rfl h
  (try simp only [PT])
  apply seq_op (V := .bool ((pair_reads_f a0) && (!a0.has))) rfl
  · exact fun _ h => O_as rfl rfl h
  (try simp only [PT])
  refine list_end ?_
  refine then_norm ?_
  refine wp_ret ?_
  subst hm
  replace H := H.dropAt 0 rfl; simp only [List.eraseIdx_cons_succ, List.eraseIdx_cons_zero] at H
  exact ret1 rfl (rv_tmp rfl) rfl ⟨rfl, H⟩
def slices_IndexFunc_Op_pair_table_event_2_l2  : Nat → List Op' → (Int ⊕ Unit)
  | k2, []  => .inr ()
  | k2, x2 :: r2 => if (pair_table_event_2_f x2) = true then (.inl (k2 : Int)) else (slices_IndexFunc_Op_pair_table_event_2_l2 (k2 + 1) r2)

def slices_IndexFunc_Op_pair_table_event_2_f (a0 : List Op') : Int := letF (slices_IndexFunc_Op_pair_table_event_2_l2 0 a0) fun | .inl z2_r => z2_r | .inr () => (-1)

set_option maxHeartbeats 4000000 in
theorem slices_IndexFunc_Op_pair_table_event_2_w {E : World} {s : SH} {L : List HP} {w : World} {a0 : List Op'} {A_p0 : Option Addr} {c_p0 : Nat} (h_p0 : kOp.Sl s (.slice A_p0 a0.length c_p0) a0) (H : Holds E s (L) w) :
    Calls Tryd.prog 174 #[.slice A_p0 a0.length c_p0, .func (.func 156) #[] #[]] w fun e w' => e = .returned (.int .i64 (slices_IndexFunc_Op_pair_table_event_2_f a0)) ∧ Holds E s (L) w' := by
  obtain ⟨R, hm⟩ : ∃ R, slices_IndexFunc_Op_pair_table_event_2_f a0 = R := ⟨_, rfl⟩
  (try rw [hm])
  unfold slices_IndexFunc_Op_pair_table_event_2_f at hm
  go_enter Tryd.func174, Tryd.ntmps174
  refine wp_seq ?_
  refine wp_region_lit ?_
  apply seq_op (V := .int .i64 0) rfl
  · exact fun _ h => O_as rfl rfl h
  (try simp only [PT])
  refine list_end ?_
  refine then_norm ?_
  refine wp_seq ?_
  refine wp_seq ?_
  refine wp_region_lit ?_
  apply seq_op (V := .slice A_p0 a0.length c_p0) rfl
  · exact fun _ h => O_mv rfl rfl h
  (try simp only [PT])
  apply seq_op (V := .int .i64 (a0.length : Int)) rfl
  · exact fun _ h => O_len rfl Tryd.underlying71 rfl h
  (try simp only [PT])
  apply seq_op (V := .int .i64 0) rfl
  · exact fun _ h => O_mv rfl rfl h
  (try simp only [PT])
  refine list_end ?_
  refine then_norm ?_
  refine wp_block ?_
  obtain ⟨R2, hq2, hm⟩ := lfe hm
  have hn2 := Nat.le_trans (len_le (d := kOp) h_p0 (by decide)) (by decide : (140737488355328 : Nat) ≤ 9223372036854775807)
  refine wp_loopF [none, none, none, none, some 4, some 5, none, none, some 8, some 9, some 10, some 11, some 12, some 13, some 14, some 15, some 16, some 17, some 18] rfl (by simp) (fun f w => ∃ (k2 : Nat) (r2 : List Op'), a0.drop k2 = r2 ∧ f 8 = .int .i64 (k2 : Int) ∧ slices_IndexFunc_Op_pair_table_event_2_l2 k2 r2 = R2 ∧ Holds E s (L) w) (fun f w => a0.length - (intOf (f 8)).toNat) ?_ ?_
  · exact ⟨0, a0, rfl, rfl, hq2, H⟩
  · clear H
    intro f w hI
    obtain ⟨k2, r2, hd2, hf8, hq2', H⟩ := hI
    clear hq2; have hq2 := hq2'; clear hq2'
    simp only [ovm, mixM]
    simp only [hf8]; clear hf8
    refine wp_seq ?_
    refine wp_region_lit ?_
    apply seq_op (V := .bool (decide ((k2 : Int) < (a0.length : Int)))) rfl
    · exact fun _ h => O_bin rfl rfl rfl eqg_int r_lss h
    (try simp only [PT])
    refine list_end ?_
    refine then_norm ?_
    refine wp_seq ?_
    refine wp_cond_split rfl (fun hc => ?_) (fun hc => ?_)
    · have hc1 := hc
      clear hc
      obtain ⟨x2, r2', rfl, hd2', hd2'', hl2⟩ := rng_t hd2 hc1
      rw [slices_IndexFunc_Op_pair_table_event_2_l2] at hq2
      refine wp_skip ?_
      refine then_norm ?_
      refine wp_seq ?_
      refine wp_block ?_
      refine wp_seq ?_
      refine wp_region_lit ?_
      apply seq_op (V := .int .i64 (k2 : Int)) rfl
      · exact fun _ h => O_mv rfl rfl h
      (try simp only [PT])
      apply seq_op (V := .int .i64 (k2 : Int)) rfl
      · exact fun _ h => O_as rfl rfl h
      (try simp only [PT])
      refine list_end ?_
      refine then_norm ?_
      refine wp_seq ?_
      obtain ⟨be1, oe1, A3e1, c3e1, rfl, hCe1, h0e1, h1e1, h2e1, h3e1⟩ := kOp_el h_p0 hd2'
      refine wp_region_lit ?_
      apply seq_op (V := .func (.func 156) #[] #[]) rfl
      · exact fun _ h => O_mv rfl rfl h
      (try simp only [PT])
      apply seq_op (V := .slice (some ⟨be1, oe1, none⟩) a0.length c_p0) rfl
      · exact fun _ h => O_mv rfl rfl h
      (try simp only [PT])
      apply seq_op (V := .int .i64 (k2 : Int)) rfl
      · exact fun _ h => O_mv rfl rfl h
      (try simp only [PT])
      apply seq_op (V := .pointer (some ⟨be1, oe1 + k2 * 6, none⟩)) rfl
      · exact fun _ h => O_ix rfl Tryd.underlying71 (Tryd.sizeOf108 _) rfl rfl rfl hl2 h
      (try simp only [PT])
      apply seq_op (V := .agg #[.int .i64 x2.kind, .string x2.key, .int .i64 x2.value, .slice A3e1 x2.list.length c3e1, .bool x2.has, .bool x2.isNil]) rfl
      · exact fun _ h => G_sN _ _ rfl (Tryd.isAgg108 _) rfl H hCe1 (Tryd.sizeOf108 _) h
      (try simp only [PT])
      refine seq_call rfl (fun Φ hΦ => by refine O_callv1 (args := #[.agg #[.int .i64 x2.kind, .string x2.key, .int .i64 x2.value, .slice A3e1 x2.list.length c3e1, .bool x2.has, .bool x2.isNil]]) (v1 := .agg #[.int .i64 x2.kind, .string x2.key, .int .i64 x2.value, .slice A3e1 x2.list.length c3e1, .bool x2.has, .bool x2.isNil]) rfl Tryd.func156 rfl rfl rfl rfl (by simp only [Array.append_empty]) hΦ) (pair_table_event_2_w (a0 := x2) (h_p0_list := h3e1) (H := H)) ?_
      clear H
      rintro e w1 ⟨rfl, H⟩; refine ⟨_, rfl, ?_⟩
      (try simp only [PT])
      refine list_end ?_
      refine then_norm ?_
      refine wp_cond_split rfl (fun hc => ?_) (fun hc => ?_)
      · have hc2 := hc
        clear hc
        replace hq2 := ifT hc2 hq2
        refine wp_seq ?_
        refine wp_region_lit ?_
        apply seq_op (V := .int .i64 (k2 : Int)) rfl
        · exact fun _ h => O_mv rfl rfl h
        (try simp only [PT])
        apply seq_op (V := .int .i64 (k2 : Int)) rfl
        · exact fun _ h => O_as rfl rfl h
        (try simp only [PT])
        refine list_end ?_
        refine then_norm ?_
        refine wp_ret ?_
        refine block_ret ?_
        refine then_ret ?_
        refine then_ret ?_
        refine block_ret ?_
        refine then_ret ?_
        subst hq2
        (try dsimp only at hm)
        subst hm
        exact ret1 rfl (rv_tmp rfl) rfl ⟨rfl, H⟩
      · have hc2 := hc
        clear hc
        replace hq2 := ifF hc2 hq2
        refine wp_skip ?_
        refine block_norm ?_
        refine then_norm ?_
        refine wp_region_lit ?_
        apply seq_op (V := .int .i64 (IntKind.i64.wrap ((k2 : Int) + 1))) rfl
        · exact fun _ h => O_bin rfl rfl rfl eqg_int r_add h
        (try simp only [PT])
        apply seq_op (V := .int .i64 (IntKind.i64.wrap ((k2 : Int) + 1))) rfl
        · exact fun _ h => O_mv rfl rfl h
        (try simp only [PT])
        refine list_end ?_
        refine then_norm ?_
        refine ⟨⟨⟨rfl, rfl, rfl, rfl, rfl, rfl, rfl⟩, rfl⟩, ⟨k2 + 1, _, hd2'', wrap_succ hl2 hn2, hq2, H⟩, ?_⟩
        exact meas_succ hl2 hn2
    · have hc1 := hc
      clear hc
      obtain rfl := rng_f hd2 hc1
      rw [slices_IndexFunc_Op_pair_table_event_2_l2] at hq2
      refine wp_exit ?_
      refine then_exit ?_
      refine then_exit ?_
      subst hq2
      (try dsimp only at hm)
      refine block_exit ?_
      refine then_norm ?_
      refine wp_seq ?_
      refine wp_region_lit ?_
      apply seq_op (V := .int .i64 (-1)) rfl
      · exact fun _ h => O_as rfl rfl h
      (try simp only [PT])
      refine list_end ?_
      refine then_norm ?_
      refine wp_ret ?_
      subst hm
      exact ret1 rfl (rv_tmp rfl) rfl ⟨rfl, H⟩
def slices_ContainsFunc_Op_pair_table_event_2_f (a0 : List Op') : Bool := (decide ((slices_IndexFunc_Op_pair_table_event_2_f a0) ≥ 0))

set_option maxHeartbeats 4000000 in
theorem slices_ContainsFunc_Op_pair_table_event_2_w {E : World} {s : SH} {L : List HP} {w : World} {a0 : List Op'} {A_p0 : Option Addr} {c_p0 : Nat} (h_p0 : kOp.Sl s (.slice A_p0 a0.length c_p0) a0) (H : Holds E s (L) w) :
    Calls Tryd.prog 153 #[.slice A_p0 a0.length c_p0, .func (.func 156) #[] #[]] w fun e w' => e = .returned (.bool (slices_ContainsFunc_Op_pair_table_event_2_f a0)) ∧ Holds E s (L) w' := by
  obtain ⟨R, hm⟩ : ∃ R, slices_ContainsFunc_Op_pair_table_event_2_f a0 = R := ⟨_, rfl⟩
  (try rw [hm])
  unfold slices_ContainsFunc_Op_pair_table_event_2_f at hm
  go_enter Tryd.func153, Tryd.ntmps153
  refine wp_seq ?_
  refine wp_region_lit ?_
  apply seq_op (V := .bool false) rfl
  · exact fun _ h => O_as rfl rfl h
  (try simp only [PT])
  refine list_end ?_
  refine then_norm ?_
  refine wp_seq ?_
  refine wp_region_lit ?_
  apply seq_op (V := .slice A_p0 a0.length c_p0) rfl
  · exact fun _ h => O_mv rfl rfl h
  (try simp only [PT])
  apply seq_op (V := .func (.func 156) #[] #[]) rfl
  · exact fun _ h => O_mv rfl rfl h
  (try simp only [PT])
  refine seq_call rfl (fun Φ hΦ => by refine O_call2 rfl Tryd.func174 rfl rfl rfl rfl hΦ) (slices_IndexFunc_Op_pair_table_event_2_w (a0 := a0) (h_p0 := h_p0) (H := H)) ?_
  clear H
  rintro e w1 ⟨rfl, H⟩; refine ⟨_, rfl, ?_⟩
  (try simp only [PT])
  apply seq_op (V := .bool (decide ((slices_IndexFunc_Op_pair_table_event_2_f a0) ≥ 0))) rfl
  · exact fun _ h => O_bin rfl rfl rfl eqg_int r_geq h
  (try simp only [PT])
  apply seq_op (V := .bool (decide ((slices_IndexFunc_Op_pair_table_event_2_f a0) ≥ 0))) rfl
  · exact fun _ h => O_as rfl rfl h
  (try simp only [PT])
  refine list_end ?_
  refine then_norm ?_
  refine wp_ret ?_
  subst hm
  exact ret1 rfl (rv_tmp rfl) rfl ⟨rfl, H⟩
theorem eqnil_kOp (w : World) (a : Option Addr) (n c : Nat) : (binOp .eql 71 (.slice a n c) (.slice none 0 0)).run Tryd.prog w = .ok (.bool a.isNone) w := Lib.run_eql_slice_nil w _ _ a n c 0 0 Tryd.underlying71
attribute [local go_sem] eqnil_kOp
set_option maxHeartbeats 400000 in
theorem clone_kOp_w {E : World} {s : SH} {L : List HP} {w : World} {a0 : List Op'} {A_p0 : Option Addr} {c_p0 : Nat} (h_p0 : kOp.Sl s (.slice A_p0 a0.length c_p0) a0) (H : Holds E s L w) :
    Calls Tryd.prog 122 #[.slice A_p0 a0.length c_p0] w fun e w' => ∃ A c n, e = .returned (.slice A n c) ∧ Holds E s ((kOp.sh s).Osl (.slice A n c) a0 :: L) w' := by
  have hv0 := h_p0
  obtain ⟨A, cap, e, h1, h2, h3⟩ := h_p0
  cases e
  cases A_p0 with
  | none =>
    have : a0 = [] := Classical.byContradiction fun hx => by obtain ⟨b, off, cur, e, fr, k, _⟩ := h3 hx; cases k
    subst this
    go_enter Tryd.func122, Tryd.ntmps122
    go_wp2
    go_ret
    exact ⟨none, 0, 0, rfl, Kin.Osl.nil H⟩
  | some p =>
    go_enter Tryd.func122, Tryd.ntmps122
    go_wp2_with (first | ((with_reducible refine OpG.list rfl ?_); refine G_slice0 (d := kOp.sh s) rfl Tryd.underlying71 Tryd.sizeOf108 H ?_; intro v1 w1 H1) | ((with_reducible refine OpG.list rfl ?_); refine G_appendS kOp_at _ _ rfl H1 hv0 rfl rfl (by simpa using h2) ?_; intro v2 w2 H2; simp only [List.nil_append] at H2))
    obtain ⟨A2, c2, rfl, -⟩ := H2.len
    go_ret
    exact ⟨A2, c2, _, rfl, H2⟩
end Go.Proofs.YtemdmpgekegfhaaDoor
