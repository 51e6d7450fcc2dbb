/- Walks, printed by fx.py: part 1. -/
import Derived.Test.YtemdmpgekegfhaaKinds
import Derived.Test.YtemdmpgekegfhaaDrawP
import Derived.Test.YtemdmpgekegfhaaOwnT
import Derived.Test.YtemdmpgekegfhaaErr
import Derived.Test.YtemdmpgekegfhaaPlace
import Derived.Test.YtemdmpgekegfhaaRet
import Derived.Test.YtemdmpgekegfhaaSmallS
namespace Go.Proofs.Ytemdmpgekegfhaa
open Go.RowKit
set_option linter.all false
set_option maxRecDepth 10000
theorem eqnil_kOp (w : World) (a : Option Addr) (n c : Nat) : (binOp .eql 28 (.slice a n c) (.slice none 0 0)).run Try.prog w = .ok (.bool a.isNone) w := Lib.run_eql_slice_nil w _ _ a n c 0 0 Try.underlying28
attribute [local go_sem] eqnil_kOp
set_option maxHeartbeats 400000 in
theorem clone_kOp_w {E : World} {s : SH} {L : List HP} {w : World} {a0 : List Op'} {A_p0 : Option Addr} {c_p0 : Nat} (h_p0 : kOp.Sl s (.slice A_p0 a0.length c_p0) a0) (H : Holds E s L w) :
    Calls Try.prog 37 #[.slice A_p0 a0.length c_p0] w fun e w' => ∃ A c n, e = .returned (.slice A n c) ∧ Holds E s ((kOp.sh s).Osl (.slice A n c) a0 :: L) w' := by
  have hv0 := h_p0
  obtain ⟨A, cap, e, h1, h2, h3⟩ := h_p0
  cases e
  cases A_p0 with
  | none =>
    have : a0 = [] := Classical.byContradiction fun hx => by obtain ⟨b, off, cur, e, fr, k, _⟩ := h3 hx; cases k
    subst this
    go_enter Try.func37, Try.ntmps37
    go_wp2
    go_ret
    exact ⟨none, 0, 0, rfl, Kin.Osl.nil H⟩
  | some p =>
    go_enter Try.func37, Try.ntmps37
    go_wp2_with (first | ((with_reducible refine OpG.list rfl ?_); refine G_slice0 (d := kOp.sh s) rfl Try.underlying28 Try.sizeOf35 H ?_; intro v1 w1 H1) | ((with_reducible refine OpG.list rfl ?_); refine G_appendS kOp_at _ _ rfl H1 hv0 rfl rfl (by simpa using h2) ?_; intro v2 w2 H2; simp only [List.nil_append] at H2))
    obtain ⟨A2, c2, rfl, -⟩ := H2.len
    go_ret
    exact ⟨A2, c2, _, rfl, H2⟩
theorem eqnil_kI (w : World) (a : Option Addr) (n c : Nat) : (binOp .eql 33 (.slice a n c) (.slice none 0 0)).run Try.prog w = .ok (.bool a.isNone) w := Lib.run_eql_slice_nil w _ _ a n c 0 0 Try.underlying33
attribute [local go_sem] eqnil_kI
set_option maxHeartbeats 400000 in
theorem clone_kI_w {E : World} {s : SH} {L : List HP} {w : World} {a0 : List Int} {A_p0 : Option Addr} {c_p0 : Nat} (h_p0 : kI.Sl s (.slice A_p0 a0.length c_p0) a0) (H : Holds E s L w) :
    Calls Try.prog 27 #[.slice A_p0 a0.length c_p0] w fun e w' => ∃ A c n, e = .returned (.slice A n c) ∧ Holds E s ((kI.sh s).Osl (.slice A n c) a0 :: L) w' := by
  have hv0 := h_p0
  obtain ⟨A, cap, e, h1, h2, h3⟩ := h_p0
  cases e
  cases A_p0 with
  | none =>
    have : a0 = [] := Classical.byContradiction fun hx => by obtain ⟨b, off, cur, e, fr, k, _⟩ := h3 hx; cases k
    subst this
    go_enter Try.func27, Try.ntmps27
    go_wp2
    go_ret
    exact ⟨none, 0, 0, rfl, Kin.Osl.nil H⟩
  | some p =>
    go_enter Try.func27, Try.ntmps27
    go_wp2_with (first | ((with_reducible refine OpG.list rfl ?_); refine G_slice0 (d := kI.sh s) rfl Try.underlying33 Try.sizeOf3 H ?_; intro v1 w1 H1) | ((with_reducible refine OpG.list rfl ?_); refine G_appendS kI_at _ _ rfl H1 hv0 rfl rfl (by simpa using h2) ?_; intro v2 w2 H2; simp only [List.nil_append] at H2))
    obtain ⟨A2, c2, rfl, -⟩ := H2.len
    go_ret
    exact ⟨A2, c2, _, rfl, H2⟩
def table_copied_l3  : Nat → Nat → (List Op') → Option (((List Op')))
  | k3, 0, y3_p0 => some y3_p0
  | k3, r3 + 1, y3_p0 => (rdI y3_p0 (k3 : Int)).bind fun u1 => table_copied_l3 (k3 + 1) r3 (setI y3_p0 (k3 : Int) (⟨u1.kind, u1.key, u1.value, u1.list, u1.has, u1.isNil⟩ : Op'))

def table_copied_f (a0 : Txn) : Option Txn := (table_copied_l3 0 ((a0.ops.length : Int)).toNat a0.ops).bind fun z3_p0 => some (⟨a0.proc, a0.state, a0.from_, a0.to, z3_p0⟩ : Txn)

set_option maxHeartbeats 4000000 in
theorem table_copied_w {E : World} {s : SH} {L : List HP} {w : World} {a0 : Txn} {A_p0_ops : Option Addr} {c_p0_ops : Nat} (h_p0_ops : kOp.Sl s (.slice A_p0_ops a0.ops.length c_p0_ops) a0.ops) (hr_p0_proc : Kin.inI64 a0.proc) (hr_p0_state : Kin.inI64 a0.state) (hr_p0_from_ : Kin.inI64 a0.from_) (hr_p0_to : Kin.inI64 a0.to) {R : Txn} (hm : table_copied_f a0 = some R) (H : Holds E s (L) w) :
    Calls Try.prog 60 #[.agg #[.int .i64 a0.proc, .int .i64 a0.state, .int .i64 a0.from_, .int .i64 a0.to, .slice A_p0_ops a0.ops.length c_p0_ops]] w fun e w' => ∃ A0_4 c0_4 n0_4 s', e = .returned (.agg #[.int .i64 R.proc, .int .i64 R.state, .int .i64 R.from_, .int .i64 R.to, .slice A0_4 n0_4 c0_4]) ∧ Sub s s' ∧ kOp.Sl s' (.slice A0_4 n0_4 c0_4) R.ops ∧ Kin.inI64 R.proc ∧ Kin.inI64 R.state ∧ Kin.inI64 R.from_ ∧ Kin.inI64 R.to ∧ Holds E s' (L) w' := by
  unfold table_copied_f at hm
  go_enter Try.func60, Try.ntmps60
  refine wp_seq ?_
  refine wp_region_lit ?_
  refine OpG.list rfl ?_; refine B_x 30 _ rfl (v := .agg #[.int .i64 a0.proc, .int .i64 a0.state, .int .i64 a0.from_, .int .i64 a0.to, .slice A_p0_ops a0.ops.length c_p0_ops]) rfl H ?_; clear H; intro b1 w1 H; (try simp only [Value.cells] at H)
  (try simp only [Act.put, List.setIfInBounds_toArray, List.set_cons_succ, List.set_cons_zero])
  refine OpG.list rfl ?_; refine G_alloc 30 rfl (Try.zeroValue30 _) H ?_; clear H; intro b2 w1 H; (try simp only [Value.cells] at H)
  (try simp only [Act.put, List.setIfInBounds_toArray, List.set_cons_succ, List.set_cons_zero])
  refine list_end ?_
  refine then_norm ?_
  refine wp_seq ?_
  refine wp_region_lit ?_
  apply seq_op (V := .pointer (some ⟨b1, 4, none⟩)) rfl
  · intro Φ hΦ; refine O_fld rfl Try.underlying30 rfl (Try.sizeOf28 _) rfl ?_; exact hΦ
  (try simp only [Act.put, List.setIfInBounds_toArray, List.set_cons_succ, List.set_cons_zero])
  apply seq_op (V := .slice A_p0_ops a0.ops.length c_p0_ops) rfl
  · intro Φ hΦ; refine L_1 1 _ _ rfl (Try.isAgg28 _) rfl H rfl rfl ?_; exact hΦ
  (try simp only [Act.put, List.setIfInBounds_toArray, List.set_cons_succ, List.set_cons_zero])
  refine seq_call rfl (fun Φ hΦ => by refine O_call1 rfl Try.func37 rfl rfl rfl hΦ) (clone_kOp_w (a0 := a0.ops) (h_p0 := h_p0_ops) (H := H)) ?_
  clear H
  rintro e w1 ⟨Ar10, cr10, nr10, rfl, H⟩; refine ⟨_, rfl, ?_⟩
  obtain rfl := osl_len 0 H rfl
  (try simp only [Act.put, List.setIfInBounds_toArray, List.set_cons_succ, List.set_cons_zero])
  apply seq_op (V := .pointer (some ⟨b1, 4, none⟩)) rfl
  · intro Φ hΦ; refine O_fld rfl Try.underlying30 rfl (Try.sizeOf28 _) rfl ?_; exact hΦ
  (try simp only [Act.put, List.setIfInBounds_toArray, List.set_cons_succ, List.set_cons_zero])
  refine OpG.list rfl ?_; refine S_1 2 _ _ _ rfl (Try.sizeOf28 _) rfl (v := .slice Ar10 a0.ops.length cr10) rfl H rfl ?_ ?_ ?_; (focus (first | rfl | (simp [Value.oneCell']; done))); (focus (simp; done)); clear H; intro w1 H; simp only [List.set_cons_succ, List.set_cons_zero] at H
  (try simp only [Act.put, List.setIfInBounds_toArray, List.set_cons_succ, List.set_cons_zero])
  refine list_end ?_
  refine then_norm ?_
  refine wp_seq ?_
  refine wp_seq ?_
  have gn1 : Kin.inI64 ((a0.ops.length : Nat) : Int) := osl_i 0 H rfl (by decide : 0 < kOp.by_)
  refine wp_region_lit ?_
  apply seq_op (V := .pointer (some ⟨b1, 4, none⟩)) rfl
  · intro Φ hΦ; refine O_fld rfl Try.underlying30 rfl (Try.sizeOf28 _) rfl ?_; exact hΦ
  (try simp only [Act.put, List.setIfInBounds_toArray, List.set_cons_succ, List.set_cons_zero])
  apply seq_op (V := .slice Ar10 a0.ops.length cr10) rfl
  · intro Φ hΦ; refine L_1 2 _ _ rfl (Try.isAgg28 _) rfl H rfl rfl ?_; exact hΦ
  (try simp only [Act.put, List.setIfInBounds_toArray, List.set_cons_succ, List.set_cons_zero])
  apply seq_op (V := .int .i64 (a0.ops.length : Int)) rfl
  · intro Φ hΦ; refine O_len rfl Try.underlying28 rfl ?_; exact hΦ
  (try simp only [Act.put, List.setIfInBounds_toArray, List.set_cons_succ, List.set_cons_zero])
  apply seq_op (V := .int .i64 0) rfl
  · intro Φ hΦ; refine O_mv rfl rfl ?_; exact hΦ
  (try simp only [Act.put, List.setIfInBounds_toArray, List.set_cons_succ, List.set_cons_zero])
  refine list_end ?_
  refine then_norm ?_
  refine wp_block ?_
  obtain ⟨R3, hq3, hm⟩ := bs hm
  have hn3 := int_le gn1
  refine wp_loopF [none, none, none, some 3, none, none, none, none, none, none, none, some 11, some 12, some 13, some 14, some 15, some 16, some 17, some 18, some 19, some 20, some 21, some 22, some 23, some 24, some 25, some 26, none] rfl (by simp) (fun f w => ∃ (k3 : Nat) (r3 : Nat) (sL3 : SH) (y3_p0 : List Op'), Sub s sL3 ∧ k3 + r3 = ((a0.ops.length : Int)).toNat ∧ f 11 = .int .i64 (k3 : Int) ∧ table_copied_l3 k3 r3 y3_p0 = some R3 ∧ Holds E sL3 ((kOp.sh sL3).Osl (.slice Ar10 a0.ops.length cr10) y3_p0 :: pt b2 (.cells #[.int .i64 0, .int .i64 0, .int .i64 0, .int .i64 0, .slice none 0 0] 30 (0, 0)) :: pt b1 (.cells #[.int .i64 a0.proc, .int .i64 a0.state, .int .i64 a0.from_, .int .i64 a0.to, .slice Ar10 a0.ops.length cr10] 30 (0, 0)) :: L) w) (fun f w => ((a0.ops.length : Int)).toNat - (intOf (f 11)).toNat) ?_ ?_
  · exact ⟨0, _, s, a0.ops, Sub.refl _, Nat.zero_add _, rfl, hq3, H⟩
  · clear H
    intro f w hI
    obtain ⟨k3, r3, sL3, y3_p0, hs3, hd3, hf11, hq3', H⟩ := hI
    clear hq3; have hq3 := hq3'; clear hq3'
    simp only [ovm, mixM]
    simp only [hf11]; clear hf11
    replace h_p0_ops := h_p0_ops.mono hs3
    have hS := hs3
    refine wp_seq ?_
    refine wp_region_lit ?_
    apply seq_op (V := .bool (decide ((k3 : Int) < (a0.ops.length : Int)))) rfl
    · intro Φ hΦ; refine O_bin rfl rfl rfl eqg_int r_lss ?_; exact hΦ
    (try simp only [Act.put, List.setIfInBounds_toArray, List.set_cons_succ, List.set_cons_zero])
    refine list_end ?_
    refine then_norm ?_
    refine wp_seq ?_
    refine wp_cond_split rfl (fun hc => ?_) (fun hc => ?_)
    · have hc1 := hc
      clear hc
      obtain ⟨r3', rfl, hl3, hd3''⟩ := irng_t hd3 hc1
      rw [table_copied_l3] at hq3
      refine wp_skip ?_
      refine then_norm ?_
      refine wp_seq ?_
      refine wp_block ?_
      refine wp_seq ?_
      refine wp_region_lit ?_
      apply seq_op (V := .int .i64 (k3 : Int)) rfl
      · intro Φ hΦ; refine O_mv rfl rfl ?_; exact hΦ
      (try simp only [Act.put, List.setIfInBounds_toArray, List.set_cons_succ, List.set_cons_zero])
      apply seq_op (V := .int .i64 (k3 : Int)) rfl
      · intro Φ hΦ; refine O_as rfl rfl ?_; exact hΦ
      (try simp only [Act.put, List.setIfInBounds_toArray, List.set_cons_succ, List.set_cons_zero])
      refine list_end ?_
      refine then_norm ?_
      obtain ⟨u1, gx1, hq3⟩ := bs hq3
      obtain ⟨kk1, gk1, gl1, gd1⟩ := rdI_some gx1
      obtain ⟨bokk1, rfl⟩ := own_addr 0 H rfl (fun e => by rw [e] at gl1; exact absurd gl1 (Nat.not_lt_zero _))
      have gngl1 := Nat.lt_of_lt_of_eq gl1 (osl_len 0 H rfl).symm
      obtain ⟨cse1, hKe1⟩ := own_has 0 H rfl gd1; obtain ⟨_, _, -, h0e1, h1e1, h2e1, -⟩ := kOp_op hKe1
      refine wp_draw_C (k := 10) (sz := 28) [8, 9] [.pointer (some ⟨b1, 4, none⟩), .slice (some ⟨bokk1, 0, none⟩) a0.ops.length cr10, .int .i64 (k3 : Int), .pointer (some ⟨b1, 4, none⟩), .slice (some ⟨bokk1, 0, none⟩) a0.ops.length cr10, .int .i64 (k3 : Int), .pointer (some ⟨bokk1, kk1 * 6, none⟩), .pointer (some ⟨bokk1, kk1 * 6 + 3, none⟩), undef, undef] [pt b1 (.cells #[.int .i64 a0.proc, .int .i64 a0.state, .int .i64 a0.from_, .int .i64 a0.to, .slice (some ⟨bokk1, 0, none⟩) a0.ops.length cr10] 30 (0, 0))] [fun w x => ∃ (sc : SH) (A3o1 : Option Addr) (c3o1 : Nat), Sub sL3 sc ∧ kI.Sl sc (.slice A3o1 u1.list.length c3o1) u1.list ∧ x 8 = .slice A3o1 u1.list.length c3o1 ∧ Holds E sc ((kOp.sh sc).Osl (.slice (some ⟨bokk1, 0, none⟩) a0.ops.length cr10) y3_p0 :: pt b2 (.cells #[.int .i64 0, .int .i64 0, .int .i64 0, .int .i64 0, .slice none 0 0] 30 (0, 0)) :: pt b1 (.cells #[.int .i64 a0.proc, .int .i64 a0.state, .int .i64 a0.from_, .int .i64 a0.to, .slice (some ⟨bokk1, 0, none⟩) a0.ops.length cr10] 30 (0, 0)) :: L) w, fun w x => ∃ (sc : SH) (A3o1 : Option Addr) (c3o1 : Nat) (Ar20 : Option Addr) (cr20 : Nat), Sub sL3 sc ∧ kI.Sl sc (.slice A3o1 u1.list.length c3o1) u1.list ∧ kI.Sl sc (.slice Ar20 u1.list.length cr20) u1.list ∧ x 8 = .slice A3o1 u1.list.length c3o1 ∧ x 9 = .slice Ar20 u1.list.length cr20 ∧ Holds E sc ((kOp.sh sc).Osl (.slice (some ⟨bokk1, 0, none⟩) a0.ops.length cr10) y3_p0 :: pt b2 (.cells #[.int .i64 0, .int .i64 0, .int .i64 0, .int .i64 0, .slice none 0 0] 30 (0, 0)) :: pt b1 (.cells #[.int .i64 a0.proc, .int .i64 a0.state, .int .i64 a0.from_, .int .i64 a0.to, .slice (some ⟨bokk1, 0, none⟩) a0.ops.length cr10] 30 (0, 0)) :: L) w] mixed (by simp) rfl (by kernel_rfl) (by kernel_rfl) (by kernel_rfl) (by simp) rfl H (by simp only [List.take_succ_cons, List.take_zero]; exact rfl) (by simp only [List.drop_succ_cons, List.drop_zero]; exact rfl)
        (fun x => by simp only [ov, Act.put, List.setIfInBounds_toArray, List.set_cons_succ, List.set_cons_zero, Nat.zero_add, Nat.reduceAdd]; exact rfl) ?_ ?_ ?_ ?_
      · refine ⟨?_, ?_, ?_, trivial⟩
        · intro w x hS; have H : Holds E sL3 ((kOp.sh sL3).Osl (.slice (some ⟨bokk1, 0, none⟩) a0.ops.length cr10) y3_p0 :: pt b2 (.cells #[.int .i64 0, .int .i64 0, .int .i64 0, .int .i64 0, .slice none 0 0] 30 (0, 0)) :: pt b1 (.cells #[.int .i64 a0.proc, .int .i64 a0.state, .int .i64 a0.from_, .int .i64 a0.to, .slice (some ⟨bokk1, 0, none⟩) a0.ops.length cr10] 30 (0, 0)) :: L) w := hS; replace H := H.front 2 rfl; simp only [List.eraseIdx_cons_succ, List.eraseIdx_cons_zero] at H; exact ⟨_, _, Sub.refl _, H⟩
        · intro w x hS; obtain ⟨sc, A3o1, c3o1, hsc, h3o1, e8, H⟩ := hS; replace H := H.front 2 rfl; simp only [List.eraseIdx_cons_succ, List.eraseIdx_cons_zero] at H; exact ⟨_, _, hsc, H⟩
        · intro w x hS; obtain ⟨sc, A3o1, c3o1, Ar20, cr20, hsc, h3o1, hf1, e8, e9, H⟩ := hS; replace H := H.front 2 rfl; simp only [List.eraseIdx_cons_succ, List.eraseIdx_cons_zero] at H; exact ⟨_, _, hsc, H⟩
      · refine ⟨?_, ?_, ?_, ?_, ?_, ?_, ?_, ?_, ?_, ?_, trivial⟩
        · refine .inr ?_; intro s' R w' x Φ hs H hx hΦ; refine wantG rfl ?_; refine O_fld rfl Try.underlying30 rfl (Try.sizeOf28 _) rfl ?_; exact hΦ
        · refine .inr ?_; intro s' R w' x Φ hs H hx hΦ; have e0 : x 0 = .pointer (some ⟨b1, 4, none⟩) := hx 0 (by decide) (by decide); simp only [e0]; refine wantG rfl ?_; refine L_1 0 _ _ rfl (Try.isAgg28 _) rfl H rfl rfl ?_; exact hΦ
        · refine .inr ?_; intro s' R w' x Φ hs H hx hΦ; refine wantG rfl ?_; refine O_mv rfl rfl ?_; exact hΦ
        · refine .inr ?_; intro s' R w' x Φ hs H hx hΦ; refine wantG rfl ?_; refine O_fld rfl Try.underlying30 rfl (Try.sizeOf28 _) rfl ?_; exact hΦ
        · refine .inr ?_; intro s' R w' x Φ hs H hx hΦ; have e3 : x 3 = .pointer (some ⟨b1, 4, none⟩) := hx 3 (by decide) (by decide); simp only [e3]; refine wantG rfl ?_; refine L_1 0 _ _ rfl (Try.isAgg28 _) rfl H rfl rfl ?_; exact hΦ
        · refine .inr ?_; intro s' R w' x Φ hs H hx hΦ; refine wantG rfl ?_; refine O_mv rfl rfl ?_; exact hΦ
        · refine .inr ?_; intro s' R w' x Φ hs H hx hΦ; have e4 : x 4 = .slice (some ⟨bokk1, 0, none⟩) a0.ops.length cr10 := hx 4 (by decide) (by decide); have e5 : x 5 = .int .i64 (k3 : Int) := hx 5 (by decide) (by decide); simp only [e4, e5]; refine wantG rfl ?_; refine O_ixn rfl Try.underlying28 (Try.sizeOf35 _) rfl rfl gk1 gngl1 ?_; exact hΦ
        · refine .inr ?_; intro s' R w' x Φ hs H hx hΦ; have e6 : x 6 = .pointer (some ⟨bokk1, kk1 * 6, none⟩) := hx 6 (by decide) (by decide); simp only [e6]; refine wantG rfl ?_; refine O_fld rfl Try.underlying35 rfl (Try.sizeOf33 _) rfl ?_; exact hΦ
        · exact .inl (by decide)
        · exact .inl (by decide)
      · refine ⟨?_, ?_, trivial⟩
        · intro o ho; obtain rfl := Option.some.inj ho; intro w' x Φ hS hx hΦ
          have H : Holds E sL3 ((kOp.sh sL3).Osl (.slice (some ⟨bokk1, 0, none⟩) a0.ops.length cr10) y3_p0 :: pt b2 (.cells #[.int .i64 0, .int .i64 0, .int .i64 0, .int .i64 0, .slice none 0 0] 30 (0, 0)) :: pt b1 (.cells #[.int .i64 a0.proc, .int .i64 a0.state, .int .i64 a0.from_, .int .i64 a0.to, .slice (some ⟨bokk1, 0, none⟩) a0.ops.length cr10] 30 (0, 0)) :: L) w' := hS; clear hS
          have hsc := Sub.refl sL3
          have e7 : x 7 = .pointer (some ⟨bokk1, kk1 * 6 + 3, none⟩) := hx 7 (by decide) (by decide)
          simp only [e7]
          refine wantG rfl ?_
          refine G_owngetF (d := kOp) (f := 3) 0 _ _ rfl (Try.isAgg33 _) rfl rfl (by decide) H rfl gd1 ?_; intro cs v hK hv; obtain ⟨A3o1, c3o1, rfl, -, -, -, h3o1⟩ := kOp_op hK; obtain rfl := Option.some.inj hv
          exact hΦ _ _ ⟨sL3, A3o1, c3o1, hsc, h3o1, updV_same, H⟩
        · intro o ho; obtain rfl := Option.some.inj ho; intro w' x Φ hS hx hΦ
          obtain ⟨sc, A3o1, c3o1, hsc, h3o1, e8, H⟩ := hS
          replace h_p0_ops := h_p0_ops.mono hsc
          simp only [e8]
          refine wantG rfl ?_
          refine O_call1 rfl Try.func27 rfl rfl rfl ?_; refine (clone_kI_w (a0 := u1.list) (h_p0 := h3o1) (H := H)).mono ?_
          clear H
          rintro e w1 ⟨Ar20, cr20, nr20, rfl, H⟩; refine ⟨_, rfl, ?_⟩
          obtain rfl := osl_len 0 H rfl
          skip
          obtain ⟨s1, hs', H, hf1⟩ := Kin.Osl.fr H; replace hf1 := hf1.unsh hs'
          replace h_p0_ops := h_p0_ops.mono hs'
          replace h3o1 := h3o1.mono hs'
          replace H := Holds.mapAt (A := (kOp.sh sc).Osl (.slice (some ⟨bokk1, 0, none⟩) a0.ops.length cr10) y3_p0) (B := (kOp.sh s1).Osl (.slice (some ⟨bokk1, 0, none⟩) a0.ops.length cr10) y3_p0) 0 rfl (fun h k => Kin.Osl.sh_mono (d := kOp) hs' h k) H; simp only [List.set_cons_succ, List.set_cons_zero] at H
          replace hsc := hsc.trans hs'
          exact hΦ _ _ ⟨s1, A3o1, c3o1, Ar20, cr20, hsc, h3o1, hf1, (updV_ne (by decide)).trans e8, updV_same, H⟩
      · clear H
        intro w' x hS hx
        obtain ⟨sc, A3o1, c3o1, Ar20, cr20, hsc, h3o1, hf1, e8, e9, H⟩ := hS
        replace h_p0_ops := h_p0_ops.mono hsc
        replace hS := hS.trans hsc
        replace hs3 := hs3.trans hsc
        have e0 : x 0 = .pointer (some ⟨b1, 4, none⟩) := hx 0 (by decide) (by decide)
        have e1 : x 1 = .slice (some ⟨bokk1, 0, none⟩) a0.ops.length cr10 := hx 1 (by decide) (by decide)
        have e2 : x 2 = .int .i64 (k3 : Int) := hx 2 (by decide) (by decide)
        have e3 : x 3 = .pointer (some ⟨b1, 4, none⟩) := hx 3 (by decide) (by decide)
        have e4 : x 4 = .slice (some ⟨bokk1, 0, none⟩) a0.ops.length cr10 := hx 4 (by decide) (by decide)
        have e5 : x 5 = .int .i64 (k3 : Int) := hx 5 (by decide) (by decide)
        have e6 : x 6 = .pointer (some ⟨bokk1, kk1 * 6, none⟩) := hx 6 (by decide) (by decide)
        have e7 : x 7 = .pointer (some ⟨bokk1, kk1 * 6 + 3, none⟩) := hx 7 (by decide) (by decide)
        simp only [e0, e1, e2, e3, e4, e5, e6, e7, e8, e9]
        clear hx
        apply seq_op (V := .pointer (some ⟨bokk1, kk1 * 6, none⟩)) rfl
        · intro Φ hΦ; refine O_ixn rfl Try.underlying28 (Try.sizeOf35 _) rfl rfl gk1 gngl1 ?_; exact hΦ
        (try simp only [Act.put, List.setIfInBounds_toArray, List.set_cons_succ, List.set_cons_zero])
        apply seq_op (V := .pointer (some ⟨bokk1, kk1 * 6 + 3, none⟩)) rfl
        · intro Φ hΦ; refine O_fld rfl Try.underlying35 rfl (Try.sizeOf33 _) rfl ?_; exact hΦ
        (try simp only [Act.put, List.setIfInBounds_toArray, List.set_cons_succ, List.set_cons_zero])
        refine OpG.list rfl ?_; refine G_ownsetF (d := kOp) 0 _ _ _ rfl (Try.sizeOf33 _) (f := 3) (v := .slice Ar20 u1.list.length cr20) (x' := (⟨u1.kind, u1.key, u1.value, u1.list, u1.has, u1.isNil⟩ : Op')) rfl rfl (by decide) rfl H rfl gk1 gd1 rfl (fun cs h => by obtain ⟨_, _, rfl, h0', h1', h2', -⟩ := kOp_op h; exact kOp_mk' (s := sc) (x := (⟨u1.kind, u1.key, u1.value, u1.list, u1.has, u1.isNil⟩ : Op')) h0' h1' h2' hf1) ?_; clear H; intro w1 H; simp only [List.set_cons_succ, List.set_cons_zero] at H
        (try simp only [Act.put, List.setIfInBounds_toArray, List.set_cons_succ, List.set_cons_zero])
        obtain ⟨gd2, gl2⟩ := setI_drop (x := (⟨u1.kind, u1.key, u1.value, u1.list, u1.has, u1.isNil⟩ : Op')) gk1 gl1
        refine list_end ?_
        refine block_norm ?_
        refine then_norm ?_
        refine wp_region_lit ?_
        apply seq_op (V := .int .i64 (IntKind.i64.wrap ((k3 : Int) + 1))) rfl
        · intro Φ hΦ; refine O_bin rfl rfl rfl eqg_int r_add ?_; exact hΦ
        (try simp only [Act.put, List.setIfInBounds_toArray, List.set_cons_succ, List.set_cons_zero])
        apply seq_op (V := .int .i64 (IntKind.i64.wrap ((k3 : Int) + 1))) rfl
        · intro Φ hΦ; refine O_mv rfl rfl ?_; exact hΦ
        (try simp only [Act.put, List.setIfInBounds_toArray, List.set_cons_succ, List.set_cons_zero])
        refine list_end ?_
        refine then_norm ?_
        refine ⟨⟨⟨rfl, rfl, rfl, rfl, rfl, rfl, rfl, rfl, rfl, rfl, rfl, rfl⟩, rfl⟩, ⟨k3 + 1, r3', sc, (setI y3_p0 (k3 : Int) (⟨u1.kind, u1.key, u1.value, u1.list, u1.has, u1.isNil⟩ : Op')), hs3, hd3'', wrap_succ hl3 hn3, hq3, H⟩, ?_⟩
        exact meas_succ hl3 hn3
    · have hc1 := hc
      clear hc
      obtain rfl := irng_f hd3 hc1
      rw [table_copied_l3] at hq3
      refine wp_exit ?_
      refine then_exit ?_
      refine then_exit ?_
      have hq3 := Option.some.inj hq3
      subst hq3
      (try dsimp only at hm)
      refine block_exit ?_
      refine then_norm ?_
      refine wp_seq ?_
      refine wp_region_lit ?_
      apply seq_op (V := .agg #[.int .i64 a0.proc, .int .i64 a0.state, .int .i64 a0.from_, .int .i64 a0.to, .slice Ar10 a0.ops.length cr10]) rfl
      · intro Φ hΦ; refine G_pNi 2 _ _ rfl (Try.isAgg30 _) rfl H rfl (Try.sizeOf30 _) ?_; exact hΦ
      (try simp only [Act.put, List.setIfInBounds_toArray, List.set_cons_succ, List.set_cons_zero])
      refine OpG.list rfl ?_; refine G_setNi 1 (c := [.int .i64 a0.proc, .int .i64 a0.state, .int .i64 a0.from_, .int .i64 a0.to, .slice Ar10 a0.ops.length cr10]) _ _ _ rfl (Try.sizeOf30 _) rfl rfl (by simp [Value.oneCell']) H rfl rfl ?_; clear H; intro w1 H; simp only [List.set_cons_succ, List.set_cons_zero] at H
      (try simp only [Act.put, List.setIfInBounds_toArray, List.set_cons_succ, List.set_cons_zero])
      refine list_end ?_
      refine then_norm ?_
      refine wp_ret ?_
      skip
      obtain ⟨s2, hs', H, hf2⟩ := Kin.Osl.fr H; replace hf2 := hf2.unsh hs'
      replace h_p0_ops := h_p0_ops.mono hs'
      replace hS := hS.trans hs'
      have hm := Option.some.inj hm
      subst hm
      have Hc := H
      replace H := H.dropAt 1 rfl; simp only [List.eraseIdx_cons_succ, List.eraseIdx_cons_zero] at H
      replace H := H.dropAt 0 rfl; simp only [List.eraseIdx_cons_succ, List.eraseIdx_cons_zero] at H
      exact ret1 rfl (rv_cellN 0 Hc rfl rfl (Try.isAgg30 _) (Try.sizeOf30 _)) rfl ⟨Ar10, cr10, a0.ops.length, s2, rfl, hS, hf2, hr_p0_proc, hr_p0_state, hr_p0_from_, hr_p0_to, H⟩
def table_writes_f (a0 : Op') : Bool := ((a0.kind == 1) || (a0.kind == 3))

set_option maxHeartbeats 4000000 in
theorem table_writes_w {E : World} {s : SH} {L : List HP} {w : World} {a0 : Op'} {A_p0_list : Option Addr} {c_p0_list : Nat} (h_p0_list : kI.Sl s (.slice A_p0_list a0.list.length c_p0_list) a0.list) (H : Holds E s (L) w) :
    Calls Try.prog 61 #[.agg #[.int .i64 a0.kind, .string a0.key, .int .i64 a0.value, .slice A_p0_list a0.list.length c_p0_list, .bool a0.has, .bool a0.isNil]] w fun e w' => e = .returned (.bool (table_writes_f a0)) ∧ Holds E s (L) w' := by
  obtain ⟨R, hm⟩ : ∃ R, table_writes_f a0 = R := ⟨_, rfl⟩
  (try rw [hm])
  unfold table_writes_f at hm
  go_enter Try.func61, Try.ntmps61
  refine wp_seq ?_
  refine wp_region_lit ?_
  refine OpG.list rfl ?_; refine B_x 35 _ rfl (v := .agg #[.int .i64 a0.kind, .string a0.key, .int .i64 a0.value, .slice A_p0_list a0.list.length c_p0_list, .bool a0.has, .bool a0.isNil]) rfl H ?_; clear H; intro b1 w1 H; (try simp only [Value.cells] at H)
  (try simp only [Act.put, List.setIfInBounds_toArray, List.set_cons_succ, List.set_cons_zero])
  apply seq_op (V := .bool false) rfl
  · intro Φ hΦ; refine O_as rfl rfl ?_; exact hΦ
  (try simp only [Act.put, List.setIfInBounds_toArray, List.set_cons_succ, List.set_cons_zero])
  refine list_end ?_
  refine then_norm ?_
  refine wp_seq ?_
  refine wp_region_lit ?_
  apply seq_op (V := .pointer (some ⟨b1, 0, none⟩)) rfl
  · intro Φ hΦ; refine O_fld rfl Try.underlying35 rfl (Try.sizeOf3 _) rfl ?_; exact hΦ
  (try simp only [Act.put, List.setIfInBounds_toArray, List.set_cons_succ, List.set_cons_zero])
  apply seq_op (V := .int .i64 a0.kind) rfl
  · intro Φ hΦ; refine L_1 0 _ _ rfl (Try.isAgg3 _) rfl H rfl rfl ?_; exact hΦ
  (try simp only [Act.put, List.setIfInBounds_toArray, List.set_cons_succ, List.set_cons_zero])
  apply seq_op (V := .bool (a0.kind == 1)) rfl
  · intro Φ hΦ; refine O_bin rfl rfl rfl eqg_int r_eql ?_; exact hΦ
  (try simp only [Act.put, List.setIfInBounds_toArray, List.set_cons_succ, List.set_cons_zero])
  apply seq_op (V := .bool (a0.kind == 1)) rfl
  · intro Φ hΦ; refine O_mv rfl rfl ?_; exact hΦ
  (try simp only [Act.put, List.setIfInBounds_toArray, List.set_cons_succ, List.set_cons_zero])
  refine seq_opg (c := (!(a0.kind == 1))) (V := .pointer (some ⟨b1, 0, none⟩)) (by first | exact wanted_f rfl rfl rfl | exact wanted_vf rfl rfl rfl) ?_ ?_
  · intro hc Φ hΦ; refine O_fld rfl Try.underlying35 rfl (Try.sizeOf3 _) rfl ?_; exact hΦ
  (try simp only [Act.put, List.setIfInBounds_toArray, List.set_cons_succ, List.set_cons_zero])
  refine seq_opg (c := (!(a0.kind == 1))) (V := .int .i64 a0.kind) (by first | exact wanted_f rfl rfl rfl | exact wanted_vf rfl rfl rfl) ?_ ?_
  · intro hc Φ hΦ; (repeat (first | rw [vg_of hc] | rw [vg_of (and_l hc)] | rw [vg_of (and_l (and_l hc))] | rw [vg_of (and_l (and_l (and_l hc)))] | rw [vg_and hc])); refine L_1 0 _ _ rfl (Try.isAgg3 _) rfl H rfl rfl ?_; exact hΦ
  (try simp only [Act.put, List.setIfInBounds_toArray, List.set_cons_succ, List.set_cons_zero])
  refine seq_opg (c := (!(a0.kind == 1))) (V := .bool (a0.kind == 3)) (by first | exact wanted_f rfl rfl rfl | exact wanted_vf rfl rfl rfl) ?_ ?_
  · intro hc Φ hΦ; (repeat (first | rw [vg_of hc] | rw [vg_of (and_l hc)] | rw [vg_of (and_l (and_l hc))] | rw [vg_of (and_l (and_l (and_l hc)))] | rw [vg_and hc])); refine O_bin rfl rfl rfl eqg_int r_eql ?_; exact hΦ
  (try simp only [Act.put, List.setIfInBounds_toArray, List.set_cons_succ, List.set_cons_zero])
  apply seq_op (V := .bool ((a0.kind == 1) || (a0.kind == 3))) rfl
  · intro Φ hΦ; refine G_or _ _ _ rfl rfl rfl rfl ?_; exact hΦ
  (try simp only [Act.put, List.setIfInBounds_toArray, List.set_cons_succ, List.set_cons_zero])
  apply seq_op (V := .bool ((a0.kind == 1) || (a0.kind == 3))) rfl
  · intro Φ hΦ; refine O_as rfl rfl ?_; exact hΦ
  (try simp only [Act.put, List.setIfInBounds_toArray, List.set_cons_succ, List.set_cons_zero])
  refine list_end ?_
  refine then_norm ?_
  refine wp_ret ?_
  subst hm
  replace H := H.dropAt 0 rfl; simp only [List.eraseIdx_cons_succ, List.eraseIdx_cons_zero] at H
  exact ret1 rfl (rv_tmp rfl) rfl ⟨rfl, H⟩
def table_New_l7 (k3 : Nat) : Nat → List Op' → (Place → Option (List Wr)) → (ByteArray → Option Int) → Option (((Place → Option (List Wr)) × (ByteArray → Option Int)))
  | k7, [] , y7_p3, y7_p4 => some (y7_p3, y7_p4)
  | k7, x7 :: r7, y7_p3, y7_p4 => letF ((if (x7.kind == 1) = true then (.inl 1) else (if (x7.kind == 2) = true then (.inl 1) else (if (x7.kind == 3) = true then (.inl 3) else (if (x7.kind == 4) = true then (.inl 3) else (.inr ())))) : (Int ⊕ Unit))) fun | .inl zj17_8 => (letF (if (((y7_p4 x7.key).getD 0) == 0) = true then (fset y7_p4 x7.key zj17_8) else y7_p4) fun zj19_p5 => if (table_writes_f x7) = true then ((app 16 ((y7_p3 (⟨x7.key, x7.value⟩ : Place)).getD []) (⟨(k3 : Int), (k7 : Int)⟩ : Wr)).bind fun u127101 => table_New_l7 k3 (k7 + 1) r7 (fset y7_p3 (⟨x7.key, x7.value⟩ : Place) u127101) zj19_p5) else (table_New_l7 k3 (k7 + 1) r7 y7_p3 zj19_p5)) | .inr () => (table_New_l7 k3 (k7 + 1) r7 y7_p3 y7_p4)

def table_New_l3  : Nat → List Txn → (List Txn) → (Place → Option (List Wr)) → (ByteArray → Option Int) → Option (((List Txn) × (List Txn) × (Place → Option (List Wr)) × (ByteArray → Option Int)))
  | k3, [] , y3_c1_0, y3_p2, y3_p3 => some (y3_c1_0, y3_c1_0, y3_p2, y3_p3)
  | k3, x3 :: r3, y3_c1_0, y3_p2, y3_p3 => (table_copied_f x3).bind fun u1 => (app 56 y3_c1_0 u1).bind fun u2 => (table_New_l7 k3 0 x3.ops y3_p2 y3_p3).bind fun (z7_p3, z7_p4) => table_New_l3 (k3 + 1) r3 u2 z7_p3 z7_p4

def table_New_f (a0 : List Txn) : Option Tbl := (table_New_l3 0 a0 [] fnil fnil).bind fun (z3_c1_0, z3_p0, z3_p2, z3_p3) => some (⟨z3_p0, z3_p3, z3_p2, true⟩ : Tbl)

set_option maxHeartbeats 4000000 in
theorem table_New_w {E : World} {s : SH} {L : List HP} {w : World} {a0 : List Txn} {A_p0 : Option Addr} {c_p0 : Nat} (h_p0 : kT.Sl s (.slice A_p0 a0.length c_p0) a0) {R : Tbl} (hm : table_New_f a0 = some R) (H : Holds E s (L) w) :
    Calls Try.prog 16 #[.slice A_p0 a0.length c_p0] w fun e w' => ∃ b0 A0_l c0_l n0_l r0_kinds r0_writers s', e = .returned (.pointer (some ⟨b0, 0, none⟩)) ∧ Sub s s' ∧ Holds E s' (pt b0 (.cells #[.slice A0_l n0_l c0_l, .map (some r0_kinds), .map (some r0_writers), .bool R.made] 98 (0, 0)) :: (kT.sh s').Osl (.slice A0_l n0_l c0_l) R.l :: mpF kcS vcI r0_kinds R.kinds :: mpO kcP kWr s' r0_writers R.writers :: L) w' := by
  unfold table_New_f at hm
  go_enter Try.func16, Try.ntmps16
  refine wp_seq ?_
  refine wp_region_lit ?_
  apply seq_op (V := .pointer none) rfl
  · intro Φ hΦ; refine O_as rfl rfl ?_; exact hΦ
  (try simp only [Act.put, List.setIfInBounds_toArray, List.set_cons_succ, List.set_cons_zero])
  refine list_end ?_
  refine then_norm ?_
  refine wp_seq ?_
  refine wp_region_lit ?_
  refine OpG.list rfl ?_; refine F_make (K := kcS) (V := vcI) 39 rfl H ?_; clear H; intro r10 w1 H
  (try simp only [Act.put, List.setIfInBounds_toArray, List.set_cons_succ, List.set_cons_zero])
  refine OpG.list rfl ?_; refine O_make (K := kcP) (d := kWr) s 96 rfl H ?_; clear H; intro r11 w1 H
  (try simp only [Act.put, List.setIfInBounds_toArray, List.set_cons_succ, List.set_cons_zero])
  apply seq_op (V := .agg #[.slice none 0 0, .map (some r10), .map (some r11), .bool true]) rfl
  · intro Φ hΦ; refine O_bld (cs := [.slice none 0 0, .map (some r10), .map (some r11), .bool true]) rfl (by kernel_rfl) ?_; exact hΦ
  (try simp only [Act.put, List.setIfInBounds_toArray, List.set_cons_succ, List.set_cons_zero])
  refine OpG.list rfl ?_; refine B_x 98 _ rfl (v := .agg #[.slice none 0 0, .map (some r10), .map (some r11), .bool true]) rfl H ?_; clear H; intro b13 w1 H; (try simp only [Value.cells] at H)
  (try simp only [Act.put, List.setIfInBounds_toArray, List.set_cons_succ, List.set_cons_zero])
  replace H := Kin.Osl.nil (d := kT.sh s) H
  apply seq_op (V := .pointer (some ⟨b13, 0, none⟩)) rfl
  · intro Φ hΦ; refine O_as rfl rfl ?_; exact hΦ
  (try simp only [Act.put, List.setIfInBounds_toArray, List.set_cons_succ, List.set_cons_zero])
  refine list_end ?_
  refine then_norm ?_
  refine wp_seq ?_
  refine wp_seq ?_
  refine wp_region_lit ?_
  apply seq_op (V := .slice A_p0 a0.length c_p0) rfl
  · intro Φ hΦ; refine O_mv rfl rfl ?_; exact hΦ
  (try simp only [Act.put, List.setIfInBounds_toArray, List.set_cons_succ, List.set_cons_zero])
  apply seq_op (V := .int .i64 (a0.length : Int)) rfl
  · intro Φ hΦ; refine O_len rfl Try.underlying22 rfl ?_; exact hΦ
  (try simp only [Act.put, List.setIfInBounds_toArray, List.set_cons_succ, List.set_cons_zero])
  apply seq_op (V := .int .i64 0) rfl
  · intro Φ hΦ; refine O_mv rfl rfl ?_; exact hΦ
  (try simp only [Act.put, List.setIfInBounds_toArray, List.set_cons_succ, List.set_cons_zero])
  refine list_end ?_
  refine then_norm ?_
  refine wp_block ?_
  obtain ⟨R3, hq3, hm⟩ := bs hm
  have hn3 := Nat.le_trans (len_le (d := kT) h_p0 (by decide)) (by decide : (140737488355328 : Nat) ≤ 9223372036854775807)
  refine wp_loopF [none, none, none, none, some 4, some 5, some 6, some 7, some 8, some 9, none, none, none, none, none, none, some 16, some 17, some 18, some 19, some 20, some 21, some 22, some 23, some 24, some 25, some 26, some 27, some 28, some 29, some 30, some 31, some 32, some 33, some 34, some 35, some 36, some 37, some 38, some 39, some 40, some 41, some 42, some 43, some 44, some 45, some 46, some 47, some 48, some 49, some 50, some 51, some 52, some 53, some 54, some 55, some 56, some 57, some 58, some 59, some 60, some 61, some 62, some 63, some 64, some 65, some 66, some 67, some 68, some 69, some 70, some 71, some 72, some 73, some 74, some 75, some 76, some 77, some 78, some 79, some 80, some 81, some 82, some 83, some 84, none] rfl (by simp) (fun f w => ∃ (k3 : Nat) (r3 : List Txn) (sL3 : SH) (y3_c1_0 : List Txn) (A_y3_c1_0 : Option Addr) (c_y3_c1_0 : Nat) (y3_p2 : Place → Option (List Wr)) (y3_p3 : ByteArray → Option Int), Sub s sL3 ∧ a0.drop k3 = r3 ∧ f 16 = .int .i64 (k3 : Int) ∧ table_New_l3 k3 r3 y3_c1_0 y3_p2 y3_p3 = some R3 ∧ Holds E sL3 ((kT.sh sL3).Osl (.slice A_y3_c1_0 y3_c1_0.length c_y3_c1_0) y3_c1_0 :: pt b13 (.cells #[.slice A_y3_c1_0 y3_c1_0.length c_y3_c1_0, .map (some r10), .map (some r11), .bool true] 98 (0, 0)) :: mpO kcP kWr sL3 r11 y3_p2 :: mpF kcS vcI r10 y3_p3 :: L) w) (fun f w => a0.length - (intOf (f 16)).toNat) ?_ ?_
  · exact ⟨0, a0, s, [], none, 0, fnil, fnil, Sub.refl _, rfl, rfl, hq3, H⟩
  · clear H
    intro f w hI
    obtain ⟨k3, r3, sL3, y3_c1_0, A_y3_c1_0, c_y3_c1_0, y3_p2, y3_p3, hs3, hd3, hf16, hq3', H⟩ := hI
    clear hq3; have hq3 := hq3'; clear hq3'
    simp only [ovm, mixM]
    simp only [hf16]; clear hf16
    replace h_p0 := h_p0.mono hs3
    have hS := hs3
    refine wp_seq ?_
    refine wp_region_lit ?_
    apply seq_op (V := .bool (decide ((k3 : Int) < (a0.length : Int)))) rfl
    · intro Φ hΦ; refine O_bin rfl rfl rfl eqg_int r_lss ?_; exact hΦ
    (try simp only [Act.put, List.setIfInBounds_toArray, List.set_cons_succ, List.set_cons_zero])
    refine list_end ?_
    refine then_norm ?_
    refine wp_seq ?_
    refine wp_cond_split rfl (fun hc => ?_) (fun hc => ?_)
    · have hc1 := hc
      clear hc
      obtain ⟨x3, r3', rfl, hd3', hd3'', hl3⟩ := rng_t hd3 hc1
      rw [table_New_l3] at hq3
      refine wp_skip ?_
      refine then_norm ?_
      refine wp_seq ?_
      refine wp_block ?_
      refine wp_seq ?_
      obtain ⟨be1, oe1, A4e1, c4e1, rfl, hCe1, h0e1, h1e1, h2e1, h3e1, h4e1⟩ := kT_el h_p0 hd3'
      refine wp_region_lit ?_
      apply seq_op (V := .int .i64 (k3 : Int)) rfl
      · intro Φ hΦ; refine O_mv rfl rfl ?_; exact hΦ
      (try simp only [Act.put, List.setIfInBounds_toArray, List.set_cons_succ, List.set_cons_zero])
      apply seq_op (V := .pointer (some ⟨be1, oe1 + k3 * 5, none⟩)) rfl
      · intro Φ hΦ; refine O_ix rfl Try.underlying22 (Try.sizeOf30 _) rfl rfl rfl hl3 ?_; exact hΦ
      (try simp only [Act.put, List.setIfInBounds_toArray, List.set_cons_succ, List.set_cons_zero])
      apply seq_op (V := .agg #[.int .i64 x3.proc, .int .i64 x3.state, .int .i64 x3.from_, .int .i64 x3.to, .slice A4e1 x3.ops.length c4e1]) rfl
      · intro Φ hΦ; refine G_sN _ _ rfl (Try.isAgg30 _) rfl H hCe1 (Try.sizeOf30 _) ?_; exact hΦ
      (try simp only [Act.put, List.setIfInBounds_toArray, List.set_cons_succ, List.set_cons_zero])
      refine OpG.list rfl ?_; refine G_alloc 30 rfl (Try.zeroValue30 _) H ?_; clear H; intro b5 w1 H; (try simp only [Value.cells] at H)
      (try simp only [Act.put, List.setIfInBounds_toArray, List.set_cons_succ, List.set_cons_zero])
      apply seq_op (V := .int .i64 (k3 : Int)) rfl
      · intro Φ hΦ; refine O_as rfl rfl ?_; exact hΦ
      (try simp only [Act.put, List.setIfInBounds_toArray, List.set_cons_succ, List.set_cons_zero])
      refine OpG.list rfl ?_; refine G_setNi 0 (c := [.int .i64 x3.proc, .int .i64 x3.state, .int .i64 x3.from_, .int .i64 x3.to, .slice A4e1 x3.ops.length c4e1]) _ _ _ rfl (Try.sizeOf30 _) rfl rfl (by simp [Value.oneCell']) H rfl rfl ?_; clear H; intro w1 H; simp only [List.set_cons_succ, List.set_cons_zero] at H
      (try simp only [Act.put, List.setIfInBounds_toArray, List.set_cons_succ, List.set_cons_zero])
      refine list_end ?_
      refine then_norm ?_
      refine wp_seq ?_
      obtain ⟨u1, gx1, hq3⟩ := bs hq3
      obtain ⟨u2, gx2, hq3⟩ := bs hq3
      obtain ⟨hroomgx2, egx2⟩ := app_some gx2
      refine wp_draw_C (k := 9) (sz := 86) [6, 7, 8] [.pointer (some ⟨b13, 0, none⟩), .pointer (some ⟨b13, 0, none⟩), .pointer (some ⟨b13, 0, none⟩), .pointer (some ⟨b13, 0, none⟩), .slice A_y3_c1_0 y3_c1_0.length c_y3_c1_0, .agg #[.int .i64 x3.proc, .int .i64 x3.state, .int .i64 x3.from_, .int .i64 x3.to, .slice A4e1 x3.ops.length c4e1], undef, undef, undef] [pt b5 (.cells #[.int .i64 x3.proc, .int .i64 x3.state, .int .i64 x3.from_, .int .i64 x3.to, .slice A4e1 x3.ops.length c4e1] 30 (0, 0)), pt b13 (.cells #[.slice A_y3_c1_0 y3_c1_0.length c_y3_c1_0, .map (some r10), .map (some r11), .bool true] 98 (0, 0))] [fun w x => ∃ (sc : SH) (Ar10_4 : Option Addr) (cr10_4 : Nat), Sub sL3 sc ∧ kOp.Sl sc (.slice Ar10_4 u1.ops.length cr10_4) u1.ops ∧ Kin.inI64 u1.proc ∧ Kin.inI64 u1.state ∧ Kin.inI64 u1.from_ ∧ Kin.inI64 u1.to ∧ x 6 = .agg #[.int .i64 u1.proc, .int .i64 u1.state, .int .i64 u1.from_, .int .i64 u1.to, .slice Ar10_4 u1.ops.length cr10_4] ∧ Holds E sc (pt b5 (.cells #[.int .i64 x3.proc, .int .i64 x3.state, .int .i64 x3.from_, .int .i64 x3.to, .slice A4e1 x3.ops.length c4e1] 30 (0, 0)) :: (kT.sh sc).Osl (.slice A_y3_c1_0 y3_c1_0.length c_y3_c1_0) y3_c1_0 :: pt b13 (.cells #[.slice A_y3_c1_0 y3_c1_0.length c_y3_c1_0, .map (some r10), .map (some r11), .bool true] 98 (0, 0)) :: mpO kcP kWr sc r11 y3_p2 :: mpF kcS vcI r10 y3_p3 :: L) w, fun w x => ∃ (sc : SH) (Ar10_4 : Option Addr) (cr10_4 : Nat) (b28 : Nat), Sub sL3 sc ∧ kOp.Sl sc (.slice Ar10_4 u1.ops.length cr10_4) u1.ops ∧ Kin.inI64 u1.proc ∧ Kin.inI64 u1.state ∧ Kin.inI64 u1.from_ ∧ Kin.inI64 u1.to ∧ x 6 = .agg #[.int .i64 u1.proc, .int .i64 u1.state, .int .i64 u1.from_, .int .i64 u1.to, .slice Ar10_4 u1.ops.length cr10_4] ∧ x 7 = .slice (some ⟨b28, 0, none⟩) 1 1 ∧ Holds E sc (pt b28 (.cells #[.int .i64 u1.proc, .int .i64 u1.state, .int .i64 u1.from_, .int .i64 u1.to, .slice Ar10_4 u1.ops.length cr10_4] 30 (0, 0)) :: pt b5 (.cells #[.int .i64 x3.proc, .int .i64 x3.state, .int .i64 x3.from_, .int .i64 x3.to, .slice A4e1 x3.ops.length c4e1] 30 (0, 0)) :: (kT.sh sc).Osl (.slice A_y3_c1_0 y3_c1_0.length c_y3_c1_0) y3_c1_0 :: pt b13 (.cells #[.slice A_y3_c1_0 y3_c1_0.length c_y3_c1_0, .map (some r10), .map (some r11), .bool true] 98 (0, 0)) :: mpO kcP kWr sc r11 y3_p2 :: mpF kcS vcI r10 y3_p3 :: L) w, fun w x => ∃ (sc : SH) (Ar10_4 : Option Addr) (cr10_4 : Nat) (b28 : Nat) (Av1 : Option Addr) (cv1 : Nat), Sub sL3 sc ∧ kOp.Sl sc (.slice Ar10_4 u1.ops.length cr10_4) u1.ops ∧ Kin.inI64 u1.proc ∧ Kin.inI64 u1.state ∧ Kin.inI64 u1.from_ ∧ Kin.inI64 u1.to ∧ x 6 = .agg #[.int .i64 u1.proc, .int .i64 u1.state, .int .i64 u1.from_, .int .i64 u1.to, .slice Ar10_4 u1.ops.length cr10_4] ∧ x 7 = .slice (some ⟨b28, 0, none⟩) 1 1 ∧ x 8 = .slice Av1 u2.length cv1 ∧ Holds E sc (pt b5 (.cells #[.int .i64 x3.proc, .int .i64 x3.state, .int .i64 x3.from_, .int .i64 x3.to, .slice A4e1 x3.ops.length c4e1] 30 (0, 0)) :: (kT.sh sc).Osl (.slice Av1 u2.length cv1) u2 :: pt b13 (.cells #[.slice A_y3_c1_0 y3_c1_0.length c_y3_c1_0, .map (some r10), .map (some r11), .bool true] 98 (0, 0)) :: mpO kcP kWr sc r11 y3_p2 :: mpF kcS vcI r10 y3_p3 :: L) w] mixed (by simp) rfl (by kernel_rfl) (by kernel_rfl) (by kernel_rfl) (by simp) rfl H (by simp only [List.take_succ_cons, List.take_zero]; exact rfl) (by simp only [List.drop_succ_cons, List.drop_zero]; exact rfl)
        (fun x => by simp only [ov, Act.put, List.setIfInBounds_toArray, List.set_cons_succ, List.set_cons_zero, Nat.zero_add, Nat.reduceAdd]; exact rfl) ?_ ?_ ?_ ?_
      · refine ⟨?_, ?_, ?_, ?_, trivial⟩
        · intro w x hS; have H : Holds E sL3 (pt b5 (.cells #[.int .i64 x3.proc, .int .i64 x3.state, .int .i64 x3.from_, .int .i64 x3.to, .slice A4e1 x3.ops.length c4e1] 30 (0, 0)) :: (kT.sh sL3).Osl (.slice A_y3_c1_0 y3_c1_0.length c_y3_c1_0) y3_c1_0 :: pt b13 (.cells #[.slice A_y3_c1_0 y3_c1_0.length c_y3_c1_0, .map (some r10), .map (some r11), .bool true] 98 (0, 0)) :: mpO kcP kWr sL3 r11 y3_p2 :: mpF kcS vcI r10 y3_p3 :: L) w := hS; replace H := H.front 2 rfl; simp only [List.eraseIdx_cons_succ, List.eraseIdx_cons_zero] at H; replace H := H.front 1 rfl; simp only [List.eraseIdx_cons_succ, List.eraseIdx_cons_zero] at H; exact ⟨_, _, Sub.refl _, H⟩
        · intro w x hS; obtain ⟨sc, Ar10_4, cr10_4, hsc, hr10_4, hrr10_0, hrr10_1, hrr10_2, hrr10_3, e6, H⟩ := hS; replace H := H.front 2 rfl; simp only [List.eraseIdx_cons_succ, List.eraseIdx_cons_zero] at H; replace H := H.front 1 rfl; simp only [List.eraseIdx_cons_succ, List.eraseIdx_cons_zero] at H; exact ⟨_, _, hsc, H⟩
        · intro w x hS; obtain ⟨sc, Ar10_4, cr10_4, b28, hsc, hr10_4, hrr10_0, hrr10_1, hrr10_2, hrr10_3, e6, e7, H⟩ := hS; replace H := H.front 3 rfl; simp only [List.eraseIdx_cons_succ, List.eraseIdx_cons_zero] at H; replace H := H.front 2 rfl; simp only [List.eraseIdx_cons_succ, List.eraseIdx_cons_zero] at H; exact ⟨_, _, hsc, H⟩
        · intro w x hS; obtain ⟨sc, Ar10_4, cr10_4, b28, Av1, cv1, hsc, hr10_4, hrr10_0, hrr10_1, hrr10_2, hrr10_3, e6, e7, e8, H⟩ := hS; replace H := H.front 2 rfl; simp only [List.eraseIdx_cons_succ, List.eraseIdx_cons_zero] at H; replace H := H.front 1 rfl; simp only [List.eraseIdx_cons_succ, List.eraseIdx_cons_zero] at H; exact ⟨_, _, hsc, H⟩
      · refine ⟨?_, ?_, ?_, ?_, ?_, ?_, ?_, ?_, ?_, trivial⟩
        · refine .inr ?_; intro s' R w' x Φ hs H hx hΦ; refine wantG rfl ?_; refine O_mv rfl rfl ?_; exact hΦ
        · refine .inr ?_; intro s' R w' x Φ hs H hx hΦ; refine wantG rfl ?_; refine O_mv rfl rfl ?_; exact hΦ
        · refine .inr ?_; intro s' R w' x Φ hs H hx hΦ; have e1 : x 1 = .pointer (some ⟨b13, 0, none⟩) := hx 1 (by decide) (by decide); simp only [e1]; refine wantG rfl ?_; refine O_nil rfl rfl ?_; exact hΦ
        · refine .inr ?_; intro s' R w' x Φ hs H hx hΦ; have e2 : x 2 = .pointer (some ⟨b13, 0, none⟩) := hx 2 (by decide) (by decide); simp only [e2]; refine wantG rfl ?_; refine O_fld rfl Try.underlying98 rfl (Try.sizeOf22 _) rfl ?_; exact hΦ
        · refine .inr ?_; intro s' R w' x Φ hs H hx hΦ; have e3 : x 3 = .pointer (some ⟨b13, 0, none⟩) := hx 3 (by decide) (by decide); simp only [e3]; refine wantG rfl ?_; refine L_1 1 _ _ rfl (Try.isAgg22 _) rfl H rfl rfl ?_; exact hΦ
        · refine .inr ?_; intro s' R w' x Φ hs H hx hΦ; refine wantG rfl ?_; refine G_pNi 0 _ _ rfl (Try.isAgg30 _) rfl H rfl (Try.sizeOf30 _) ?_; exact hΦ
        · exact .inl (by decide)
        · exact .inl (by decide)
        · exact .inl (by decide)
      · refine ⟨?_, ?_, ?_, trivial⟩
        · intro o ho; obtain rfl := Option.some.inj ho; intro w' x Φ hS hx hΦ
          have H : Holds E sL3 (pt b5 (.cells #[.int .i64 x3.proc, .int .i64 x3.state, .int .i64 x3.from_, .int .i64 x3.to, .slice A4e1 x3.ops.length c4e1] 30 (0, 0)) :: (kT.sh sL3).Osl (.slice A_y3_c1_0 y3_c1_0.length c_y3_c1_0) y3_c1_0 :: pt b13 (.cells #[.slice A_y3_c1_0 y3_c1_0.length c_y3_c1_0, .map (some r10), .map (some r11), .bool true] 98 (0, 0)) :: mpO kcP kWr sL3 r11 y3_p2 :: mpF kcS vcI r10 y3_p3 :: L) w' := hS; clear hS
          have hsc := Sub.refl sL3
          have e5 : x 5 = .agg #[.int .i64 x3.proc, .int .i64 x3.state, .int .i64 x3.from_, .int .i64 x3.to, .slice A4e1 x3.ops.length c4e1] := hx 5 (by decide) (by decide)
          simp only [e5]
          refine wantG rfl ?_
          refine O_call1 rfl Try.func60 rfl rfl rfl ?_; refine (table_copied_w (a0 := x3) (hr_p0_proc := h0e1) (hr_p0_state := h1e1) (hr_p0_from_ := h2e1) (hr_p0_to := h3e1) (h_p0_ops := h4e1) (hm := gx1) (H := H)).mono ?_
          clear H
          rintro e w1 ⟨Ar10_4, cr10_4, nr10_4, s1, rfl, hs', hr10_4, hrr10_0, hrr10_1, hrr10_2, hrr10_3, H⟩; refine ⟨_, rfl, ?_⟩
          obtain rfl := sl_n hr10_4
          replace h_p0 := h_p0.mono hs'
          replace hCe1 := hCe1.mono hs'
          replace h4e1 := h4e1.mono hs'
          replace H := Holds.mapAt (A := (kT.sh sL3).Osl (.slice A_y3_c1_0 y3_c1_0.length c_y3_c1_0) y3_c1_0) (B := (kT.sh s1).Osl (.slice A_y3_c1_0 y3_c1_0.length c_y3_c1_0) y3_c1_0) 1 rfl (fun h k => Kin.Osl.sh_mono (d := kT) hs' h k) H; simp only [List.set_cons_succ, List.set_cons_zero] at H
          replace H := Holds.mapAt (A := mpO kcP kWr sL3 r11 y3_p2) (B := mpO kcP kWr s1 r11 y3_p2) 3 rfl (fun h k => mpO_mono hs' h k) H; simp only [List.set_cons_succ, List.set_cons_zero] at H
          replace hsc := hsc.trans hs'
          exact hΦ _ _ ⟨s1, Ar10_4, cr10_4, hsc, hr10_4, hrr10_0, hrr10_1, hrr10_2, hrr10_3, updV_same, H⟩
        · intro o ho; obtain rfl := Option.some.inj ho; intro w' x Φ hS hx hΦ
          obtain ⟨sc, Ar10_4, cr10_4, hsc, hr10_4, hrr10_0, hrr10_1, hrr10_2, hrr10_3, e6, H⟩ := hS
          replace h_p0 := h_p0.mono hsc
          replace hCe1 := hCe1.mono hsc
          replace h4e1 := h4e1.mono hsc
          simp only [e6]
          refine wantG rfl ?_
          refine SL_1 rfl (v := .agg #[.int .i64 u1.proc, .int .i64 u1.state, .int .i64 u1.from_, .int .i64 u1.to, .slice Ar10_4 u1.ops.length cr10_4]) rfl Try.underlying22 Try.sizeOf30 Try.zeroValue30 rfl rfl (by decide) (by decide) H ?_; clear H; intro b28 w1 H; (try simp only [Value.cells] at H)
          exact hΦ _ _ ⟨sc, Ar10_4, cr10_4, b28, hsc, hr10_4, hrr10_0, hrr10_1, hrr10_2, hrr10_3, (updV_ne (by decide)).trans e6, updV_same, H⟩
        · intro o ho; obtain rfl := Option.some.inj ho; intro w' x Φ hS hx hΦ
          obtain ⟨sc, Ar10_4, cr10_4, b28, hsc, hr10_4, hrr10_0, hrr10_1, hrr10_2, hrr10_3, e6, e7, H⟩ := hS
          replace h_p0 := h_p0.mono hsc
          replace hCe1 := hCe1.mono hsc
          replace h4e1 := h4e1.mono hsc
          have e4 : x 4 = .slice A_y3_c1_0 y3_c1_0.length c_y3_c1_0 := hx 4 (by decide) (by decide)
          simp only [e4, e7]
          refine wantG rfl ?_
          refine AP_1 (p := u1) 1 kT_at _ _ rfl (kT_mk' (s := sc) (x := u1) hrr10_0 hrr10_1 hrr10_2 hrr10_3 hr10_4) H rfl rfl rfl hroomgx2 ?_; clear H; intro v1 w1 H; (try simp only [List.set_cons_succ, List.set_cons_zero] at H)
          rw [← egx2] at H
          obtain ⟨Av1, cv1, rfl, -⟩ := (H.front 1 rfl).len
          exact hΦ _ _ ⟨sc, Ar10_4, cr10_4, b28, Av1, cv1, hsc, hr10_4, hrr10_0, hrr10_1, hrr10_2, hrr10_3, (updV_ne (by decide)).trans e6, (updV_ne (by decide)).trans e7, updV_same, H⟩
      · clear H
        intro w' x hS hx
        obtain ⟨sc, Ar10_4, cr10_4, b28, Av1, cv1, hsc, hr10_4, hrr10_0, hrr10_1, hrr10_2, hrr10_3, e6, e7, e8, H⟩ := hS
        replace h_p0 := h_p0.mono hsc
        replace hCe1 := hCe1.mono hsc
        replace h4e1 := h4e1.mono hsc
        replace hS := hS.trans hsc
        replace hs3 := hs3.trans hsc
        have e0 : x 0 = .pointer (some ⟨b13, 0, none⟩) := hx 0 (by decide) (by decide)
        have e1 : x 1 = .pointer (some ⟨b13, 0, none⟩) := hx 1 (by decide) (by decide)
        have e2 : x 2 = .pointer (some ⟨b13, 0, none⟩) := hx 2 (by decide) (by decide)
        have e3 : x 3 = .pointer (some ⟨b13, 0, none⟩) := hx 3 (by decide) (by decide)
        have e4 : x 4 = .slice A_y3_c1_0 y3_c1_0.length c_y3_c1_0 := hx 4 (by decide) (by decide)
        have e5 : x 5 = .agg #[.int .i64 x3.proc, .int .i64 x3.state, .int .i64 x3.from_, .int .i64 x3.to, .slice A4e1 x3.ops.length c4e1] := hx 5 (by decide) (by decide)
        simp only [e0, e1, e2, e3, e4, e5, e6, e7, e8]
        clear hx
        apply seq_op (V := .pointer (some ⟨b13, 0, none⟩)) rfl
        · intro Φ hΦ; refine O_nil rfl rfl ?_; exact hΦ
        (try simp only [Act.put, List.setIfInBounds_toArray, List.set_cons_succ, List.set_cons_zero])
        apply seq_op (V := .pointer (some ⟨b13, 0, none⟩)) rfl
        · intro Φ hΦ; refine O_fld rfl Try.underlying98 rfl (Try.sizeOf22 _) rfl ?_; exact hΦ
        (try simp only [Act.put, List.setIfInBounds_toArray, List.set_cons_succ, List.set_cons_zero])
        refine OpG.list rfl ?_; refine S_1 2 _ _ _ rfl (Try.sizeOf22 _) rfl (v := .slice Av1 u2.length cv1) rfl H rfl ?_ ?_ ?_; (focus (first | rfl | (simp [Value.oneCell']; done))); (focus (simp; done)); clear H; intro w1 H; simp only [List.set_cons_succ, List.set_cons_zero] at H
        (try simp only [Act.put, List.setIfInBounds_toArray, List.set_cons_succ, List.set_cons_zero])
        refine list_end ?_
        refine then_norm ?_
        refine wp_seq ?_
        refine wp_region_lit ?_
        apply seq_op (V := .pointer (some ⟨b5, 4, none⟩)) rfl
        · intro Φ hΦ; refine O_fld rfl Try.underlying30 rfl (Try.sizeOf28 _) rfl ?_; exact hΦ
        (try simp only [Act.put, List.setIfInBounds_toArray, List.set_cons_succ, List.set_cons_zero])
        apply seq_op (V := .slice A4e1 x3.ops.length c4e1) rfl
        · intro Φ hΦ; refine L_1 0 _ _ rfl (Try.isAgg28 _) rfl H rfl rfl ?_; exact hΦ
        (try simp only [Act.put, List.setIfInBounds_toArray, List.set_cons_succ, List.set_cons_zero])
        apply seq_op (V := .int .i64 (x3.ops.length : Int)) rfl
        · intro Φ hΦ; refine O_len rfl Try.underlying28 rfl ?_; exact hΦ
        (try simp only [Act.put, List.setIfInBounds_toArray, List.set_cons_succ, List.set_cons_zero])
        apply seq_op (V := .int .i64 0) rfl
        · intro Φ hΦ; refine O_mv rfl rfl ?_; exact hΦ
        (try simp only [Act.put, List.setIfInBounds_toArray, List.set_cons_succ, List.set_cons_zero])
        refine list_end ?_
        refine then_norm ?_
        refine wp_block ?_
        obtain ⟨R7, hq7, hq3⟩ := bs hq3
        have hn7 := Nat.le_trans (len_le (d := kOp) h4e1 (by decide)) (by decide : (140737488355328 : Nat) ≤ 9223372036854775807)
        refine wp_loopF [none, none, none, none, none, none, some 6, some 7, some 8, some 9, none, none, none, none, none, none, none, none, none, none, none, none, none, none, none, none, none, none, none, none, none, none, none, none, none, some 35, some 36, some 37, some 38, some 39, some 40, some 41, some 42, some 43, some 44, some 45, some 46, some 47, some 48, some 49, some 50, some 51, some 52, some 53, some 54, some 55, some 56, some 57, some 58, some 59, some 60, some 61, some 62, some 63, some 64, some 65, some 66, some 67, some 68, some 69, some 70, some 71, some 72, some 73, some 74, some 75, some 76, some 77, some 78, some 79, some 80, some 81, some 82, some 83, none, none] rfl (by simp) (fun f w => ∃ (k7 : Nat) (r7 : List Op') (y7_p3 : Place → Option (List Wr)) (y7_p4 : ByteArray → Option Int), x3.ops.drop k7 = r7 ∧ f 35 = .int .i64 (k7 : Int) ∧ table_New_l7 k3 k7 r7 y7_p3 y7_p4 = some R7 ∧ Holds E sc (pt b5 (.cells #[.int .i64 x3.proc, .int .i64 x3.state, .int .i64 x3.from_, .int .i64 x3.to, .slice A4e1 x3.ops.length c4e1] 30 (0, 0)) :: (kT.sh sc).Osl (.slice Av1 u2.length cv1) u2 :: pt b13 (.cells #[.slice Av1 u2.length cv1, .map (some r10), .map (some r11), .bool true] 98 (0, 0)) :: mpO kcP kWr sc r11 y7_p3 :: mpF kcS vcI r10 y7_p4 :: L) w) (fun f w => x3.ops.length - (intOf (f 35)).toNat) ?_ ?_
        · exact ⟨0, x3.ops, y3_p2, y3_p3, rfl, rfl, hq7, H⟩
        · clear H
          intro f w hI
          obtain ⟨k7, r7, y7_p3, y7_p4, hd7, hf35, hq7', H⟩ := hI
          clear hq7; have hq7 := hq7'; clear hq7'
          simp only [ovm, mixM]
          simp only [hf35]; clear hf35
          refine wp_seq ?_
          refine wp_region_lit ?_
          apply seq_op (V := .bool (decide ((k7 : Int) < (x3.ops.length : Int)))) rfl
          · intro Φ hΦ; refine O_bin rfl rfl rfl eqg_int r_lss ?_; exact hΦ
          (try simp only [Act.put, List.setIfInBounds_toArray, List.set_cons_succ, List.set_cons_zero])
          refine list_end ?_
          refine then_norm ?_
          refine wp_seq ?_
          refine wp_cond_split rfl (fun hc => ?_) (fun hc => ?_)
          · have hc2 := hc
            clear hc
            obtain ⟨x7, r7', rfl, hd7', hd7'', hl7⟩ := rng_t hd7 hc2
            rw [table_New_l7] at hq7
            refine wp_skip ?_
            refine then_norm ?_
            refine wp_seq ?_
            refine wp_block ?_
            refine wp_seq ?_
            obtain ⟨be2, oe2, A3e2, c3e2, rfl, hCe2, h0e2, h1e2, h2e2, h3e2⟩ := kOp_el h4e1 hd7'
            refine wp_region_lit ?_
            apply seq_op (V := .int .i64 (k7 : Int)) rfl
            · intro Φ hΦ; refine O_mv rfl rfl ?_; exact hΦ
            (try simp only [Act.put, List.setIfInBounds_toArray, List.set_cons_succ, List.set_cons_zero])
            apply seq_op (V := .pointer (some ⟨be2, oe2 + k7 * 6, none⟩)) rfl
            · intro Φ hΦ; refine O_ix rfl Try.underlying28 (Try.sizeOf35 _) rfl rfl rfl hl7 ?_; exact hΦ
            (try simp only [Act.put, List.setIfInBounds_toArray, List.set_cons_succ, List.set_cons_zero])
            apply seq_op (V := .agg #[.int .i64 x7.kind, .string x7.key, .int .i64 x7.value, .slice A3e2 x7.list.length c3e2, .bool x7.has, .bool x7.isNil]) rfl
            · intro Φ hΦ; refine G_sN _ _ rfl (Try.isAgg35 _) rfl H hCe2 (Try.sizeOf35 _) ?_; exact hΦ
            (try simp only [Act.put, List.setIfInBounds_toArray, List.set_cons_succ, List.set_cons_zero])
            refine OpG.list rfl ?_; refine G_alloc 35 rfl (Try.zeroValue35 _) H ?_; clear H; intro b7 w1 H; (try simp only [Value.cells] at H)
            (try simp only [Act.put, List.setIfInBounds_toArray, List.set_cons_succ, List.set_cons_zero])
            apply seq_op (V := .int .i64 (k7 : Int)) rfl
            · intro Φ hΦ; refine O_as rfl rfl ?_; exact hΦ
            (try simp only [Act.put, List.setIfInBounds_toArray, List.set_cons_succ, List.set_cons_zero])
            refine OpG.list rfl ?_; refine G_setNi 0 (c := [.int .i64 x7.kind, .string x7.key, .int .i64 x7.value, .slice A3e2 x7.list.length c3e2, .bool x7.has, .bool x7.isNil]) _ _ _ rfl (Try.sizeOf35 _) rfl rfl (by simp [Value.oneCell']) H rfl rfl ?_; clear H; intro w1 H; simp only [List.set_cons_succ, List.set_cons_zero] at H
            (try simp only [Act.put, List.setIfInBounds_toArray, List.set_cons_succ, List.set_cons_zero])
            refine list_end ?_
            refine then_norm ?_
            refine wp_seq ?_
            refine wp_region_lit ?_
            apply seq_op (V := .int .i64 0) rfl
            · intro Φ hΦ; refine O_as rfl rfl ?_; exact hΦ
            (try simp only [Act.put, List.setIfInBounds_toArray, List.set_cons_succ, List.set_cons_zero])
            refine list_end ?_
            refine then_norm ?_
            obtain ⟨Rj17, hqj17, hq7⟩ := lfe hq7
            refine wp_joinF [none, none, none, none, none, none, none, none, some 8, none, none, none, none, none, none, none, none, none, none, none, none, none, none, none, none, none, none, none, none, none, none, none, none, none, none, none, none, none, none, none, some 40, some 41, some 42, some 43, some 44, some 45, some 46, some 47, none, none, none, none, none, none, none, none, none, none, none, none, none, none, none, none, none, none, none, none, none, none, none, none, none, none, none, none, none, none, none, none, none, none, none, none, none, none] rfl (fun f w => ∃ (zj17_8 : Int), f 8 = .int .i64 zj17_8 ∧ Kin.inI64 zj17_8 ∧ (.inl zj17_8) = Rj17 ∧ Holds E sc (pt b7 (.cells #[.int .i64 x7.kind, .string x7.key, .int .i64 x7.value, .slice A3e2 x7.list.length c3e2, .bool x7.has, .bool x7.isNil] 35 (0, 0)) :: pt b5 (.cells #[.int .i64 x3.proc, .int .i64 x3.state, .int .i64 x3.from_, .int .i64 x3.to, .slice (some ⟨be2, oe2, none⟩) x3.ops.length c4e1] 30 (0, 0)) :: (kT.sh sc).Osl (.slice Av1 u2.length cv1) u2 :: pt b13 (.cells #[.slice Av1 u2.length cv1, .map (some r10), .map (some r11), .bool true] 98 (0, 0)) :: mpO kcP kWr sc r11 y7_p3 :: mpF kcS vcI r10 y7_p4 :: L) w) ?_ ?_
            · skip
              refine wp_seq ?_
              refine wp_region_lit ?_
              apply seq_op (V := .pointer (some ⟨b7, 0, none⟩)) rfl
              · intro Φ hΦ; refine O_fld rfl Try.underlying35 rfl (Try.sizeOf3 _) rfl ?_; exact hΦ
              (try simp only [Act.put, List.setIfInBounds_toArray, List.set_cons_succ, List.set_cons_zero])
              apply seq_op (V := .int .i64 x7.kind) rfl
              · intro Φ hΦ; refine L_1 0 _ _ rfl (Try.isAgg3 _) rfl H rfl rfl ?_; exact hΦ
              (try simp only [Act.put, List.setIfInBounds_toArray, List.set_cons_succ, List.set_cons_zero])
              refine list_end ?_
              refine then_norm ?_
              refine wp_block ?_
              refine wp_seq ?_
              refine wp_seq ?_
              refine wp_region_lit ?_
              apply seq_op (V := .bool (x7.kind == 1)) rfl
              · intro Φ hΦ; refine O_bin rfl rfl rfl eqg_int r_eql ?_; exact hΦ
              (try simp only [Act.put, List.setIfInBounds_toArray, List.set_cons_succ, List.set_cons_zero])
              apply seq_op (V := .bool (x7.kind == 1)) rfl
              · intro Φ hΦ; refine O_as rfl rfl ?_; exact hΦ
              (try simp only [Act.put, List.setIfInBounds_toArray, List.set_cons_succ, List.set_cons_zero])
              refine list_end ?_
              refine then_norm ?_
              refine wp_cond_split rfl (fun hc => ?_) (fun hc => ?_)
              · have hc3 := hc
                clear hc
                replace hqj17 := ifT hc3 hqj17
                refine wp_skip ?_
                refine then_norm ?_
                refine wp_cond_true (congrArg Value.bool hc3) ?_
                refine wp_region_lit ?_
                apply seq_op (V := .int .i64 1) rfl
                · intro Φ hΦ; refine O_as rfl rfl ?_; exact hΦ
                (try simp only [Act.put, List.setIfInBounds_toArray, List.set_cons_succ, List.set_cons_zero])
                refine list_end ?_
                refine block_norm ?_
                refine then_norm ?_
                exact ⟨⟨⟨rfl, rfl, rfl, rfl, rfl, rfl, rfl, rfl, rfl, rfl, rfl, rfl, rfl, rfl, rfl, rfl, rfl, rfl, rfl, rfl, rfl, rfl, rfl, rfl, rfl, rfl, rfl, rfl, rfl, rfl, rfl, rfl, rfl, rfl, rfl, rfl, rfl, rfl, rfl, rfl, rfl, rfl, rfl, rfl, rfl, rfl, rfl, rfl, rfl, rfl, rfl, rfl, rfl, rfl, rfl, rfl, rfl, rfl, rfl, rfl, rfl, rfl, rfl, rfl, rfl, rfl, rfl, rfl, rfl, rfl, rfl, rfl, rfl, rfl, rfl, rfl, rfl, rfl⟩, rfl⟩, ⟨1, rfl, (by constructor <;> decide : Kin.inI64 1), hqj17, H⟩⟩
              · have hc3 := hc
                clear hc
                replace hqj17 := ifF hc3 hqj17
                refine wp_region_lit ?_
                apply seq_op (V := .bool (x7.kind == 2)) rfl
                · intro Φ hΦ; refine O_bin rfl rfl rfl eqg_int r_eql ?_; exact hΦ
                (try simp only [Act.put, List.setIfInBounds_toArray, List.set_cons_succ, List.set_cons_zero])
                apply seq_op (V := .bool (x7.kind == 2)) rfl
                · intro Φ hΦ; refine O_as rfl rfl ?_; exact hΦ
                (try simp only [Act.put, List.setIfInBounds_toArray, List.set_cons_succ, List.set_cons_zero])
                refine list_end ?_
                refine then_norm ?_
                refine wp_cond_split rfl (fun hc => ?_) (fun hc => ?_)
                · have hc4 := hc
                  clear hc
                  replace hqj17 := ifT hc4 hqj17
                  refine wp_region_lit ?_
                  apply seq_op (V := .int .i64 1) rfl
                  · intro Φ hΦ; refine O_as rfl rfl ?_; exact hΦ
                  (try simp only [Act.put, List.setIfInBounds_toArray, List.set_cons_succ, List.set_cons_zero])
                  refine list_end ?_
                  refine block_norm ?_
                  refine then_norm ?_
                  exact ⟨⟨⟨rfl, rfl, rfl, rfl, rfl, rfl, rfl, rfl, rfl, rfl, rfl, rfl, rfl, rfl, rfl, rfl, rfl, rfl, rfl, rfl, rfl, rfl, rfl, rfl, rfl, rfl, rfl, rfl, rfl, rfl, rfl, rfl, rfl, rfl, rfl, rfl, rfl, rfl, rfl, rfl, rfl, rfl, rfl, rfl, rfl, rfl, rfl, rfl, rfl, rfl, rfl, rfl, rfl, rfl, rfl, rfl, rfl, rfl, rfl, rfl, rfl, rfl, rfl, rfl, rfl, rfl, rfl, rfl, rfl, rfl, rfl, rfl, rfl, rfl, rfl, rfl, rfl, rfl⟩, rfl⟩, ⟨1, rfl, (by constructor <;> decide : Kin.inI64 1), hqj17, H⟩⟩
                · have hc4 := hc
                  clear hc
                  replace hqj17 := ifF hc4 hqj17
                  refine wp_seq ?_
                  refine wp_seq ?_
                  refine wp_region_lit ?_
                  apply seq_op (V := .bool (x7.kind == 3)) rfl
                  · intro Φ hΦ; refine O_bin rfl rfl rfl eqg_int r_eql ?_; exact hΦ
                  (try simp only [Act.put, List.setIfInBounds_toArray, List.set_cons_succ, List.set_cons_zero])
                  apply seq_op (V := .bool (x7.kind == 3)) rfl
                  · intro Φ hΦ; refine O_as rfl rfl ?_; exact hΦ
                  (try simp only [Act.put, List.setIfInBounds_toArray, List.set_cons_succ, List.set_cons_zero])
                  refine list_end ?_
                  refine then_norm ?_
                  refine wp_cond_split rfl (fun hc => ?_) (fun hc => ?_)
                  · have hc5 := hc
                    clear hc
                    replace hqj17 := ifT hc5 hqj17
                    refine wp_skip ?_
                    refine then_norm ?_
                    refine wp_cond_true (congrArg Value.bool hc5) ?_
                    refine wp_region_lit ?_
                    apply seq_op (V := .int .i64 3) rfl
                    · intro Φ hΦ; refine O_as rfl rfl ?_; exact hΦ
                    (try simp only [Act.put, List.setIfInBounds_toArray, List.set_cons_succ, List.set_cons_zero])
                    refine list_end ?_
                    refine block_norm ?_
                    refine then_norm ?_
                    exact ⟨⟨⟨rfl, rfl, rfl, rfl, rfl, rfl, rfl, rfl, rfl, rfl, rfl, rfl, rfl, rfl, rfl, rfl, rfl, rfl, rfl, rfl, rfl, rfl, rfl, rfl, rfl, rfl, rfl, rfl, rfl, rfl, rfl, rfl, rfl, rfl, rfl, rfl, rfl, rfl, rfl, rfl, rfl, rfl, rfl, rfl, rfl, rfl, rfl, rfl, rfl, rfl, rfl, rfl, rfl, rfl, rfl, rfl, rfl, rfl, rfl, rfl, rfl, rfl, rfl, rfl, rfl, rfl, rfl, rfl, rfl, rfl, rfl, rfl, rfl, rfl, rfl, rfl, rfl, rfl⟩, rfl⟩, ⟨3, rfl, (by constructor <;> decide : Kin.inI64 3), hqj17, H⟩⟩
                  · have hc5 := hc
                    clear hc
                    replace hqj17 := ifF hc5 hqj17
                    refine wp_region_lit ?_
                    apply seq_op (V := .bool (x7.kind == 4)) rfl
                    · intro Φ hΦ; refine O_bin rfl rfl rfl eqg_int r_eql ?_; exact hΦ
                    (try simp only [Act.put, List.setIfInBounds_toArray, List.set_cons_succ, List.set_cons_zero])
                    apply seq_op (V := .bool (x7.kind == 4)) rfl
                    · intro Φ hΦ; refine O_as rfl rfl ?_; exact hΦ
                    (try simp only [Act.put, List.setIfInBounds_toArray, List.set_cons_succ, List.set_cons_zero])
                    refine list_end ?_
                    refine then_norm ?_
                    refine wp_cond_split rfl (fun hc => ?_) (fun hc => ?_)
                    · have hc6 := hc
                      clear hc
                      replace hqj17 := ifT hc6 hqj17
                      refine wp_region_lit ?_
                      apply seq_op (V := .int .i64 3) rfl
                      · intro Φ hΦ; refine O_as rfl rfl ?_; exact hΦ
                      (try simp only [Act.put, List.setIfInBounds_toArray, List.set_cons_succ, List.set_cons_zero])
                      refine list_end ?_
                      refine block_norm ?_
                      refine then_norm ?_
                      exact ⟨⟨⟨rfl, rfl, rfl, rfl, rfl, rfl, rfl, rfl, rfl, rfl, rfl, rfl, rfl, rfl, rfl, rfl, rfl, rfl, rfl, rfl, rfl, rfl, rfl, rfl, rfl, rfl, rfl, rfl, rfl, rfl, rfl, rfl, rfl, rfl, rfl, rfl, rfl, rfl, rfl, rfl, rfl, rfl, rfl, rfl, rfl, rfl, rfl, rfl, rfl, rfl, rfl, rfl, rfl, rfl, rfl, rfl, rfl, rfl, rfl, rfl, rfl, rfl, rfl, rfl, rfl, rfl, rfl, rfl, rfl, rfl, rfl, rfl, rfl, rfl, rfl, rfl, rfl, rfl⟩, rfl⟩, ⟨3, rfl, (by constructor <;> decide : Kin.inI64 3), hqj17, H⟩⟩
                    · have hc6 := hc
                      clear hc
                      replace hqj17 := ifF hc6 hqj17
                      refine wp_exit ?_
                      refine block_pass (by decide) ?_
                      refine then_exit ?_
                      subst hqj17
                      (try dsimp only at hq7)
                      refine block_exit ?_
                      refine then_norm ?_
                      refine wp_region_lit ?_
                      apply seq_op (V := .int .i64 (IntKind.i64.wrap ((k7 : Int) + 1))) rfl
                      · intro Φ hΦ; refine O_bin rfl rfl rfl eqg_int r_add ?_; exact hΦ
                      (try simp only [Act.put, List.setIfInBounds_toArray, List.set_cons_succ, List.set_cons_zero])
                      apply seq_op (V := .int .i64 (IntKind.i64.wrap ((k7 : Int) + 1))) rfl
                      · intro Φ hΦ; refine O_mv rfl rfl ?_; exact hΦ
                      (try simp only [Act.put, List.setIfInBounds_toArray, List.set_cons_succ, List.set_cons_zero])
                      refine list_end ?_
                      refine then_norm ?_
                      replace H := H.drop
                      refine ⟨⟨⟨rfl, rfl, rfl, rfl, rfl, rfl, rfl, rfl, rfl, rfl, rfl, rfl, rfl, rfl, rfl, rfl, rfl, rfl, rfl, rfl, rfl, rfl, rfl, rfl, rfl, rfl, rfl, rfl, rfl, rfl, rfl, rfl, rfl, rfl⟩, rfl⟩, ⟨k7 + 1, _, y7_p3, y7_p4, hd7'', wrap_succ hl7 hn7, hq7, H⟩, ?_⟩
                      exact meas_succ hl7 hn7
            · clear H
              intro f w hJ
              obtain ⟨zj17_8, hf8, hr_zj17_8, hqj17', H⟩ := hJ
              clear hqj17; have hqj17 := hqj17'; clear hqj17'
              subst hqj17
              (try dsimp only at hq7)
              simp only [ovm, mixM]
              simp only [hf8]; clear hf8
              obtain ⟨Rj19, hqj19, hq7⟩ := lfe hq7
              refine wp_joinF [none, none, none, none, none, none, none, none, none, none, none, none, none, none, none, none, none, none, none, none, none, none, none, none, none, none, none, none, none, none, none, none, none, none, none, none, none, none, none, none, none, none, none, none, none, none, none, none, some 48, some 49, some 50, some 51, some 52, some 53, some 54, some 55, some 56, some 57, some 58, some 59, some 60, some 61, some 62, none, none, none, none, none, none, none, none, none, none, none, none, none, none, none, none, none, none, none, none, none, none, none] rfl (fun f w => ∃ (zj19_p5 : ByteArray → Option Int), zj19_p5 = Rj19 ∧ Holds E sc (pt b7 (.cells #[.int .i64 x7.kind, .string x7.key, .int .i64 x7.value, .slice A3e2 x7.list.length c3e2, .bool x7.has, .bool x7.isNil] 35 (0, 0)) :: pt b5 (.cells #[.int .i64 x3.proc, .int .i64 x3.state, .int .i64 x3.from_, .int .i64 x3.to, .slice (some ⟨be2, oe2, none⟩) x3.ops.length c4e1] 30 (0, 0)) :: (kT.sh sc).Osl (.slice Av1 u2.length cv1) u2 :: pt b13 (.cells #[.slice Av1 u2.length cv1, .map (some r10), .map (some r11), .bool true] 98 (0, 0)) :: mpO kcP kWr sc r11 y7_p3 :: mpF kcS vcI r10 zj19_p5 :: L) w) ?_ ?_
              · skip
                refine wp_seq ?_
                refine wp_draw_obO (k := 8) (sz := 86) (List.replicate 8 8) (fun _ => []) mixed (by simp) rfl (by kernel_rfl) (by kernel_rfl) (by kernel_rfl) H (by simp only [List.take_succ_cons, List.take_zero]; exact rfl) (by simp only [List.drop_succ_cons, List.drop_zero]; exact rfl)
                  (fun y => by simp only [ov, Act.put, List.setIfInBounds_toArray, List.set_cons_succ, List.set_cons_zero, Nat.zero_add, Nat.reduceAdd]; exact rfl) ?_
                apply ObO.valw (V := .pointer (some ⟨b13, 0, none⟩))
                · intro x; rfl
                · intro s' w' y Φ R hs H hG hΦ; refine wantG rfl ?_; refine O_mv rfl rfl ?_; exact hΦ _ _ (Sub.refl _) H
                apply ObO.valw (V := .pointer (some ⟨b13, 0, none⟩))
                · intro x; rfl
                · intro s' w' y Φ R hs H hG hΦ; simp only [List.nil_append, List.cons_append] at hG; have e0 : y 0 = _ := dh_get hG 0 rfl (by kernel_rfl); simp only [e0]; refine wantG rfl ?_; refine O_nil rfl rfl ?_; exact hΦ _ _ (Sub.refl _) H
                apply ObO.valw (V := .pointer (some ⟨b13, 1, none⟩))
                · intro x; rfl
                · intro s' w' y Φ R hs H hG hΦ; simp only [List.nil_append, List.cons_append] at hG; have e1 : y 1 = _ := dh_get hG 1 rfl (by kernel_rfl); simp only [e1]; refine wantG rfl ?_; refine O_fld rfl Try.underlying98 rfl (Try.sizeOf39 _) rfl ?_; exact hΦ _ _ (Sub.refl _) H
                apply ObO.valw (V := .map (some r10))
                · intro x; rfl
                · intro s' w' y Φ R hs H hG hΦ; simp only [List.nil_append, List.cons_append] at hG; have e2 : y 2 = _ := dh_get hG 2 rfl (by kernel_rfl); simp only [e2]; refine wantG rfl ?_; refine L_1 3 _ _ rfl (Try.isAgg39 _) rfl H rfl rfl ?_; exact hΦ _ _ (Sub.refl _) H
                apply ObO.valw (V := .pointer (some ⟨b7, 1, none⟩))
                · intro x; rfl
                · intro s' w' y Φ R hs H hG hΦ; refine wantG rfl ?_; refine O_fld rfl Try.underlying35 rfl (Try.sizeOf9 _) rfl ?_; exact hΦ _ _ (Sub.refl _) H
                apply ObO.valw (V := .string x7.key)
                · intro x; rfl
                · intro s' w' y Φ R hs H hG hΦ; simp only [List.nil_append, List.cons_append] at hG; have e4 : y 4 = _ := dh_get hG 4 rfl (by kernel_rfl); simp only [e4]; refine wantG rfl ?_; refine L_1 0 _ _ rfl (Try.isAgg9 _) rfl H rfl rfl ?_; exact hΦ _ _ (Sub.refl _) H
                apply ObO.valw (V := .int .i64 ((y7_p4 x7.key).getD 0))
                · intro x; rfl
                · intro s' w' y Φ R hs H hG hΦ; simp only [List.nil_append, List.cons_append] at hG; have e3 : y 3 = _ := dh_get hG 3 rfl (by kernel_rfl); have e5 : y 5 = _ := dh_get hG 5 rfl (by kernel_rfl); simp only [e3, e5]; refine wantG rfl ?_; refine F_get mk_S 5 39 _ _ rfl Try.underlying39 (k := x7.key) (Nat.le_trans h1e2 (by decide)) rfl rfl H rfl (Try.zeroValue3 _) ?_; exact hΦ _ _ (Sub.refl _) H
                apply ObO.valw (V := .bool (((y7_p4 x7.key).getD 0) == 0))
                · intro x; rfl
                · intro s' w' y Φ R hs H hG hΦ; simp only [List.nil_append, List.cons_append] at hG; have e6 : y 6 = _ := dh_get hG 6 rfl (by kernel_rfl); simp only [e6]; refine wantG rfl ?_; refine O_bin rfl rfl rfl eqg_int r_eql ?_; exact hΦ _ _ (Sub.refl _) H
                clear H
                intro s3 w3 yy hs3 H hG
                replace H := (show Holds _ _ ([] ++ _) _ from H); rw [List.nil_append] at H
                simp only [List.nil_append, List.cons_append] at hG
                have e0 : yy 0 = _ := gh_get hG 0 rfl
                have e1 : yy 1 = _ := gh_get hG 1 rfl
                have e2 : yy 2 = _ := gh_get hG 2 rfl
                have e3 : yy 3 = _ := gh_get hG 3 rfl
                have e4 : yy 4 = _ := gh_get hG 4 rfl
                have e5 : yy 5 = _ := gh_get hG 5 rfl
                have e6 : yy 6 = _ := gh_get hG 6 rfl
                have e7 : yy 7 = _ := gh_get hG 7 rfl
                simp only [e0, e1, e2, e3, e4, e5, e6, e7]
                clear hG e0 e1 e2 e3 e4 e5 e6 e7
                replace H := H.forget hs3; clear hs3
                refine list_end ?_
                refine then_norm ?_
                refine wp_cond_split rfl (fun hc => ?_) (fun hc => ?_)
                · have hc7 := hc
                  clear hc
                  replace hqj19 := ifT hc7 hqj19
                  refine wp_draw_obO (k := 7) (sz := 86) (List.replicate 7 7) (fun _ => []) mixed (by simp) rfl (by kernel_rfl) (by kernel_rfl) (by kernel_rfl) H (by simp only [List.take_succ_cons, List.take_zero]; exact rfl) (by simp only [List.drop_succ_cons, List.drop_zero]; exact rfl)
                    (fun y => by simp only [ov, Act.put, List.setIfInBounds_toArray, List.set_cons_succ, List.set_cons_zero, Nat.zero_add, Nat.reduceAdd]; exact rfl) ?_
                  apply ObO.valw (V := .pointer (some ⟨b13, 0, none⟩))
                  · intro x; rfl
                  · intro s' w' y Φ R hs H hG hΦ; refine wantG rfl ?_; refine O_mv rfl rfl ?_; exact hΦ _ _ (Sub.refl _) H
                  apply ObO.valw (V := .pointer (some ⟨b13, 0, none⟩))
                  · intro x; rfl
                  · intro s' w' y Φ R hs H hG hΦ; simp only [List.nil_append, List.cons_append] at hG; have e0 : y 0 = _ := dh_get hG 0 rfl (by kernel_rfl); simp only [e0]; refine wantG rfl ?_; refine O_nil rfl rfl ?_; exact hΦ _ _ (Sub.refl _) H
                  apply ObO.valw (V := .pointer (some ⟨b13, 1, none⟩))
                  · intro x; rfl
                  · intro s' w' y Φ R hs H hG hΦ; simp only [List.nil_append, List.cons_append] at hG; have e1 : y 1 = _ := dh_get hG 1 rfl (by kernel_rfl); simp only [e1]; refine wantG rfl ?_; refine O_fld rfl Try.underlying98 rfl (Try.sizeOf39 _) rfl ?_; exact hΦ _ _ (Sub.refl _) H
                  apply ObO.valw (V := .map (some r10))
                  · intro x; rfl
                  · intro s' w' y Φ R hs H hG hΦ; simp only [List.nil_append, List.cons_append] at hG; have e2 : y 2 = _ := dh_get hG 2 rfl (by kernel_rfl); simp only [e2]; refine wantG rfl ?_; refine L_1 3 _ _ rfl (Try.isAgg39 _) rfl H rfl rfl ?_; exact hΦ _ _ (Sub.refl _) H
                  apply ObO.valw (V := .pointer (some ⟨b7, 1, none⟩))
                  · intro x; rfl
                  · intro s' w' y Φ R hs H hG hΦ; refine wantG rfl ?_; refine O_fld rfl Try.underlying35 rfl (Try.sizeOf9 _) rfl ?_; exact hΦ _ _ (Sub.refl _) H
                  apply ObO.valw (V := .string x7.key)
                  · intro x; rfl
                  · intro s' w' y Φ R hs H hG hΦ; simp only [List.nil_append, List.cons_append] at hG; have e4 : y 4 = _ := dh_get hG 4 rfl (by kernel_rfl); simp only [e4]; refine wantG rfl ?_; refine L_1 0 _ _ rfl (Try.isAgg9 _) rfl H rfl rfl ?_; exact hΦ _ _ (Sub.refl _) H
                  apply ObO.valw (V := .int .i64 zj17_8)
                  · intro x; rfl
                  · intro s' w' y Φ R hs H hG hΦ; refine wantG rfl ?_; refine O_mv rfl rfl ?_; exact hΦ _ _ (Sub.refl _) H
                  clear H
                  intro s3 w3 yy hs3 H hG
                  replace H := (show Holds _ _ ([] ++ _) _ from H); rw [List.nil_append] at H
                  simp only [List.nil_append, List.cons_append] at hG
                  have e0 : yy 0 = _ := gh_get hG 0 rfl
                  have e1 : yy 1 = _ := gh_get hG 1 rfl
                  have e2 : yy 2 = _ := gh_get hG 2 rfl
                  have e3 : yy 3 = _ := gh_get hG 3 rfl
                  have e4 : yy 4 = _ := gh_get hG 4 rfl
                  have e5 : yy 5 = _ := gh_get hG 5 rfl
                  have e6 : yy 6 = _ := gh_get hG 6 rfl
                  simp only [e0, e1, e2, e3, e4, e5, e6]
                  clear hG e0 e1 e2 e3 e4 e5 e6
                  replace H := H.forget hs3; clear hs3
                  refine OpG.list rfl ?_; refine F_put mk_S 5 39 _ _ _ rfl Try.underlying39 (k := x7.key) (v := zj17_8) (Nat.le_trans h1e2 (by decide)) trivial rfl rfl rfl H rfl ?_; clear H; intro w1 H; simp only [List.set_cons_succ, List.set_cons_zero] at H
                  (try simp only [Act.put, List.setIfInBounds_toArray, List.set_cons_succ, List.set_cons_zero])
                  refine list_end ?_
                  refine then_norm ?_
                  exact ⟨⟨⟨rfl, rfl, rfl, rfl, rfl, rfl, rfl, rfl, rfl, rfl, rfl, rfl, rfl, rfl, rfl, rfl, rfl, rfl, rfl, rfl, rfl, rfl, rfl, rfl, rfl, rfl, rfl, rfl, rfl, rfl, rfl, rfl, rfl, rfl, rfl, rfl, rfl, rfl, rfl, rfl, rfl, rfl, rfl, rfl, rfl, rfl, rfl, rfl, rfl, rfl, rfl, rfl, rfl, rfl, rfl, rfl, rfl, rfl, rfl, rfl, rfl, rfl, rfl, rfl, rfl, rfl, rfl, rfl, rfl, rfl, rfl, rfl⟩, rfl⟩, ⟨(fset y7_p4 x7.key zj17_8), hqj19, H⟩⟩
                · have hc7 := hc
                  clear hc
                  replace hqj19 := ifF hc7 hqj19
                  refine wp_skip ?_
                  refine then_norm ?_
                  exact ⟨⟨⟨rfl, rfl, rfl, rfl, rfl, rfl, rfl, rfl, rfl, rfl, rfl, rfl, rfl, rfl, rfl, rfl, rfl, rfl, rfl, rfl, rfl, rfl, rfl, rfl, rfl, rfl, rfl, rfl, rfl, rfl, rfl, rfl, rfl, rfl, rfl, rfl, rfl, rfl, rfl, rfl, rfl, rfl, rfl, rfl, rfl, rfl, rfl, rfl, rfl, rfl, rfl, rfl, rfl, rfl, rfl, rfl, rfl, rfl, rfl, rfl, rfl, rfl, rfl, rfl, rfl, rfl, rfl, rfl, rfl, rfl, rfl, rfl⟩, rfl⟩, ⟨y7_p4, hqj19, H⟩⟩
              · clear H
                intro f w hJ
                obtain ⟨zj19_p5, hqj19', H⟩ := hJ
                clear hqj19; have hqj19 := hqj19'; clear hqj19'
                subst hqj19
                (try dsimp only at hq7)
                simp only [ovm, mixM]
                refine wp_seq ?_
                refine wp_region_lit ?_
                apply seq_op (V := .agg #[.int .i64 x7.kind, .string x7.key, .int .i64 x7.value, .slice A3e2 x7.list.length c3e2, .bool x7.has, .bool x7.isNil]) rfl
                · intro Φ hΦ; refine G_pNi 0 _ _ rfl (Try.isAgg35 _) rfl H rfl (Try.sizeOf35 _) ?_; exact hΦ
                (try simp only [Act.put, List.setIfInBounds_toArray, List.set_cons_succ, List.set_cons_zero])
                refine seq_call rfl (fun Φ hΦ => by refine O_call1 rfl Try.func61 rfl rfl rfl hΦ) (table_writes_w (a0 := x7) (h_p0_list := h3e2) (H := H)) ?_
                clear H
                rintro e w1 ⟨rfl, H⟩; refine ⟨_, rfl, ?_⟩
                (try simp only [Act.put, List.setIfInBounds_toArray, List.set_cons_succ, List.set_cons_zero])
                refine list_end ?_
                refine then_norm ?_
                refine wp_cond_split rfl (fun hc => ?_) (fun hc => ?_)
                · have hc8 := hc
                  clear hc
                  replace hq7 := ifT hc8 hq7
                  refine wp_seq ?_
                  refine wp_region_lit ?_
                  apply seq_op (V := .pointer (some ⟨b7, 1, none⟩)) rfl
                  · intro Φ hΦ; refine O_fld rfl Try.underlying35 rfl (Try.sizeOf9 _) rfl ?_; exact hΦ
                  (try simp only [Act.put, List.setIfInBounds_toArray, List.set_cons_succ, List.set_cons_zero])
                  apply seq_op (V := .string x7.key) rfl
                  · intro Φ hΦ; refine L_1 0 _ _ rfl (Try.isAgg9 _) rfl H rfl rfl ?_; exact hΦ
                  (try simp only [Act.put, List.setIfInBounds_toArray, List.set_cons_succ, List.set_cons_zero])
                  apply seq_op (V := .pointer (some ⟨b7, 2, none⟩)) rfl
                  · intro Φ hΦ; refine O_fld rfl Try.underlying35 rfl (Try.sizeOf3 _) rfl ?_; exact hΦ
                  (try simp only [Act.put, List.setIfInBounds_toArray, List.set_cons_succ, List.set_cons_zero])
                  apply seq_op (V := .int .i64 x7.value) rfl
                  · intro Φ hΦ; refine L_1 0 _ _ rfl (Try.isAgg3 _) rfl H rfl rfl ?_; exact hΦ
                  (try simp only [Act.put, List.setIfInBounds_toArray, List.set_cons_succ, List.set_cons_zero])
                  apply seq_op (V := .agg #[.string x7.key, .int .i64 x7.value]) rfl
                  · intro Φ hΦ; refine O_bld (cs := [.string x7.key, .int .i64 x7.value]) rfl (by kernel_rfl) ?_; exact hΦ
                  (try simp only [Act.put, List.setIfInBounds_toArray, List.set_cons_succ, List.set_cons_zero])
                  refine OpG.list rfl ?_; refine G_alloc 108 rfl (Try.zeroValue108 _) H ?_; clear H; intro b9 w1 H; (try simp only [Value.cells] at H)
                  (try simp only [Act.put, List.setIfInBounds_toArray, List.set_cons_succ, List.set_cons_zero])
                  refine OpG.list rfl ?_; refine G_setNi 0 (c := [.string x7.key, .int .i64 x7.value]) _ _ _ rfl (Try.sizeOf108 _) rfl rfl (by simp [Value.oneCell']) H rfl rfl ?_; clear H; intro w1 H; simp only [List.set_cons_succ, List.set_cons_zero] at H
                  (try simp only [Act.put, List.setIfInBounds_toArray, List.set_cons_succ, List.set_cons_zero])
                  refine list_end ?_
                  refine then_norm ?_
                  obtain ⟨u127101, gx127101, hq7⟩ := bs hq7
                  obtain ⟨hroomgx127101, egx127101⟩ := app_some gx127101
                  obtain ⟨hroomgx127101, egx127101⟩ := app_some gx127101
                  refine wp_draw_P (k := 13) (sz := 86) [8, 9, 10, 11, 12] [[false, false, false, false, false], [true, false, false, false, false], [true, true, false, false, false], [true, true, true, false, false], [true, true, false, false, true], [true, true, true, true, false], [true, true, true, false, true], [true, true, true, true, true]] [(0, 0, 1), (1, 1, 2), (2, 2, 3), (2, 4, 4), (3, 3, 5), (3, 4, 6), (4, 2, 6), (5, 4, 7), (6, 3, 7)] [.pointer (some ⟨b13, 0, none⟩), .pointer (some ⟨b13, 0, none⟩), .pointer (some ⟨b13, 2, none⟩), .map (some r11), .agg #[.string x7.key, .int .i64 x7.value], .int .i64 (k3 : Int), .int .i64 (k7 : Int), .agg #[.int .i64 (k3 : Int), .int .i64 (k7 : Int)], undef, undef, undef, undef, undef] [pt b9 (.cells #[.string x7.key, .int .i64 x7.value] 108 (0, 0)), pt b13 (.cells #[.slice Av1 u2.length cv1, .map (some r10), .map (some r11), .bool true] 98 (0, 0))] [fun w x => ∃ (b79 : Nat), x 8 = .slice (some ⟨b79, 0, none⟩) 1 1 ∧ Holds E sc (pt b79 (.cells #[.int .i64 (k3 : Int), .int .i64 (k7 : Int)] 41 (0, 0)) :: pt b9 (.cells #[.string x7.key, .int .i64 x7.value] 108 (0, 0)) :: pt b7 (.cells #[.int .i64 x7.kind, .string x7.key, .int .i64 x7.value, .slice A3e2 x7.list.length c3e2, .bool x7.has, .bool x7.isNil] 35 (0, 0)) :: pt b5 (.cells #[.int .i64 x3.proc, .int .i64 x3.state, .int .i64 x3.from_, .int .i64 x3.to, .slice (some ⟨be2, oe2, none⟩) x3.ops.length c4e1] 30 (0, 0)) :: (kT.sh sc).Osl (.slice Av1 u2.length cv1) u2 :: pt b13 (.cells #[.slice Av1 u2.length cv1, .map (some r10), .map (some r11), .bool true] 98 (0, 0)) :: mpO kcP kWr sc r11 y7_p3 :: mpF kcS vcI r10 zj19_p5 :: L) w, fun w x => ∃ (b79 : Nat) (At126901 : Option Addr) (ct126901 : Nat) (stt126901 : Nat), x 8 = .slice (some ⟨b79, 0, none⟩) 1 1 ∧ x 9 = .tuple #[.slice At126901 ((y7_p3 (⟨x7.key, x7.value⟩ : Place)).getD []).length ct126901, goInt stt126901] ∧ Holds E sc ((kWr.sh sc).Osl (.slice At126901 ((y7_p3 (⟨x7.key, x7.value⟩ : Place)).getD []).length ct126901) ((y7_p3 (⟨x7.key, x7.value⟩ : Place)).getD []) :: pt b79 (.cells #[.int .i64 (k3 : Int), .int .i64 (k7 : Int)] 41 (0, 0)) :: pt b9 (.cells #[.string x7.key, .int .i64 x7.value] 108 (0, 0)) :: pt b7 (.cells #[.int .i64 x7.kind, .string x7.key, .int .i64 x7.value, .slice A3e2 x7.list.length c3e2, .bool x7.has, .bool x7.isNil] 35 (0, 0)) :: pt b5 (.cells #[.int .i64 x3.proc, .int .i64 x3.state, .int .i64 x3.from_, .int .i64 x3.to, .slice (some ⟨be2, oe2, none⟩) x3.ops.length c4e1] 30 (0, 0)) :: (kT.sh sc).Osl (.slice Av1 u2.length cv1) u2 :: pt b13 (.cells #[.slice Av1 u2.length cv1, .map (some r10), .map (some r11), .bool true] 98 (0, 0)) :: mpE Try.prog 96 kcP kWr sc r11 y7_p3 (⟨x7.key, x7.value⟩ : Place) stt126901 :: mpF kcS vcI r10 zj19_p5 :: L) w, fun w x => ∃ (b79 : Nat) (At126901 : Option Addr) (ct126901 : Nat) (stt126901 : Nat), x 8 = .slice (some ⟨b79, 0, none⟩) 1 1 ∧ x 9 = .tuple #[.slice At126901 ((y7_p3 (⟨x7.key, x7.value⟩ : Place)).getD []).length ct126901, goInt stt126901] ∧ x 10 = .slice At126901 ((y7_p3 (⟨x7.key, x7.value⟩ : Place)).getD []).length ct126901 ∧ Holds E sc ((kWr.sh sc).Osl (.slice At126901 ((y7_p3 (⟨x7.key, x7.value⟩ : Place)).getD []).length ct126901) ((y7_p3 (⟨x7.key, x7.value⟩ : Place)).getD []) :: pt b79 (.cells #[.int .i64 (k3 : Int), .int .i64 (k7 : Int)] 41 (0, 0)) :: pt b9 (.cells #[.string x7.key, .int .i64 x7.value] 108 (0, 0)) :: pt b7 (.cells #[.int .i64 x7.kind, .string x7.key, .int .i64 x7.value, .slice A3e2 x7.list.length c3e2, .bool x7.has, .bool x7.isNil] 35 (0, 0)) :: pt b5 (.cells #[.int .i64 x3.proc, .int .i64 x3.state, .int .i64 x3.from_, .int .i64 x3.to, .slice (some ⟨be2, oe2, none⟩) x3.ops.length c4e1] 30 (0, 0)) :: (kT.sh sc).Osl (.slice Av1 u2.length cv1) u2 :: pt b13 (.cells #[.slice Av1 u2.length cv1, .map (some r10), .map (some r11), .bool true] 98 (0, 0)) :: mpE Try.prog 96 kcP kWr sc r11 y7_p3 (⟨x7.key, x7.value⟩ : Place) stt126901 :: mpF kcS vcI r10 zj19_p5 :: L) w, fun w x => ∃ (b79 : Nat) (At126901 : Option Addr) (ct126901 : Nat) (stt126901 : Nat), x 8 = .slice (some ⟨b79, 0, none⟩) 1 1 ∧ x 9 = .tuple #[.slice At126901 ((y7_p3 (⟨x7.key, x7.value⟩ : Place)).getD []).length ct126901, goInt stt126901] ∧ x 12 = goInt stt126901 ∧ Holds E sc ((kWr.sh sc).Osl (.slice At126901 ((y7_p3 (⟨x7.key, x7.value⟩ : Place)).getD []).length ct126901) ((y7_p3 (⟨x7.key, x7.value⟩ : Place)).getD []) :: pt b79 (.cells #[.int .i64 (k3 : Int), .int .i64 (k7 : Int)] 41 (0, 0)) :: pt b9 (.cells #[.string x7.key, .int .i64 x7.value] 108 (0, 0)) :: pt b7 (.cells #[.int .i64 x7.kind, .string x7.key, .int .i64 x7.value, .slice A3e2 x7.list.length c3e2, .bool x7.has, .bool x7.isNil] 35 (0, 0)) :: pt b5 (.cells #[.int .i64 x3.proc, .int .i64 x3.state, .int .i64 x3.from_, .int .i64 x3.to, .slice (some ⟨be2, oe2, none⟩) x3.ops.length c4e1] 30 (0, 0)) :: (kT.sh sc).Osl (.slice Av1 u2.length cv1) u2 :: pt b13 (.cells #[.slice Av1 u2.length cv1, .map (some r10), .map (some r11), .bool true] 98 (0, 0)) :: mpE Try.prog 96 kcP kWr sc r11 y7_p3 (⟨x7.key, x7.value⟩ : Place) stt126901 :: mpF kcS vcI r10 zj19_p5 :: L) w, fun w x => ∃ (b79 : Nat) (At126901 : Option Addr) (ct126901 : Nat) (stt126901 : Nat) (Av127101 : Option Addr) (cv127101 : Nat), x 8 = .slice (some ⟨b79, 0, none⟩) 1 1 ∧ x 9 = .tuple #[.slice At126901 ((y7_p3 (⟨x7.key, x7.value⟩ : Place)).getD []).length ct126901, goInt stt126901] ∧ x 10 = .slice At126901 ((y7_p3 (⟨x7.key, x7.value⟩ : Place)).getD []).length ct126901 ∧ x 11 = .slice Av127101 u127101.length cv127101 ∧ Holds E sc ((kWr.sh sc).Osl (.slice Av127101 u127101.length cv127101) u127101 :: pt b9 (.cells #[.string x7.key, .int .i64 x7.value] 108 (0, 0)) :: pt b7 (.cells #[.int .i64 x7.kind, .string x7.key, .int .i64 x7.value, .slice A3e2 x7.list.length c3e2, .bool x7.has, .bool x7.isNil] 35 (0, 0)) :: pt b5 (.cells #[.int .i64 x3.proc, .int .i64 x3.state, .int .i64 x3.from_, .int .i64 x3.to, .slice (some ⟨be2, oe2, none⟩) x3.ops.length c4e1] 30 (0, 0)) :: (kT.sh sc).Osl (.slice Av1 u2.length cv1) u2 :: pt b13 (.cells #[.slice Av1 u2.length cv1, .map (some r10), .map (some r11), .bool true] 98 (0, 0)) :: mpE Try.prog 96 kcP kWr sc r11 y7_p3 (⟨x7.key, x7.value⟩ : Place) stt126901 :: mpF kcS vcI r10 zj19_p5 :: L) w, fun w x => ∃ (b79 : Nat) (At126901 : Option Addr) (ct126901 : Nat) (stt126901 : Nat), x 8 = .slice (some ⟨b79, 0, none⟩) 1 1 ∧ x 9 = .tuple #[.slice At126901 ((y7_p3 (⟨x7.key, x7.value⟩ : Place)).getD []).length ct126901, goInt stt126901] ∧ x 10 = .slice At126901 ((y7_p3 (⟨x7.key, x7.value⟩ : Place)).getD []).length ct126901 ∧ x 12 = goInt stt126901 ∧ Holds E sc ((kWr.sh sc).Osl (.slice At126901 ((y7_p3 (⟨x7.key, x7.value⟩ : Place)).getD []).length ct126901) ((y7_p3 (⟨x7.key, x7.value⟩ : Place)).getD []) :: pt b79 (.cells #[.int .i64 (k3 : Int), .int .i64 (k7 : Int)] 41 (0, 0)) :: pt b9 (.cells #[.string x7.key, .int .i64 x7.value] 108 (0, 0)) :: pt b7 (.cells #[.int .i64 x7.kind, .string x7.key, .int .i64 x7.value, .slice A3e2 x7.list.length c3e2, .bool x7.has, .bool x7.isNil] 35 (0, 0)) :: pt b5 (.cells #[.int .i64 x3.proc, .int .i64 x3.state, .int .i64 x3.from_, .int .i64 x3.to, .slice (some ⟨be2, oe2, none⟩) x3.ops.length c4e1] 30 (0, 0)) :: (kT.sh sc).Osl (.slice Av1 u2.length cv1) u2 :: pt b13 (.cells #[.slice Av1 u2.length cv1, .map (some r10), .map (some r11), .bool true] 98 (0, 0)) :: mpE Try.prog 96 kcP kWr sc r11 y7_p3 (⟨x7.key, x7.value⟩ : Place) stt126901 :: mpF kcS vcI r10 zj19_p5 :: L) w, fun w x => ∃ (b79 : Nat) (At126901 : Option Addr) (ct126901 : Nat) (stt126901 : Nat) (Av127101 : Option Addr) (cv127101 : Nat), x 8 = .slice (some ⟨b79, 0, none⟩) 1 1 ∧ x 9 = .tuple #[.slice At126901 ((y7_p3 (⟨x7.key, x7.value⟩ : Place)).getD []).length ct126901, goInt stt126901] ∧ x 10 = .slice At126901 ((y7_p3 (⟨x7.key, x7.value⟩ : Place)).getD []).length ct126901 ∧ x 11 = .slice Av127101 u127101.length cv127101 ∧ x 12 = goInt stt126901 ∧ Holds E sc ((kWr.sh sc).Osl (.slice Av127101 u127101.length cv127101) u127101 :: pt b9 (.cells #[.string x7.key, .int .i64 x7.value] 108 (0, 0)) :: pt b7 (.cells #[.int .i64 x7.kind, .string x7.key, .int .i64 x7.value, .slice A3e2 x7.list.length c3e2, .bool x7.has, .bool x7.isNil] 35 (0, 0)) :: pt b5 (.cells #[.int .i64 x3.proc, .int .i64 x3.state, .int .i64 x3.from_, .int .i64 x3.to, .slice (some ⟨be2, oe2, none⟩) x3.ops.length c4e1] 30 (0, 0)) :: (kT.sh sc).Osl (.slice Av1 u2.length cv1) u2 :: pt b13 (.cells #[.slice Av1 u2.length cv1, .map (some r10), .map (some r11), .bool true] 98 (0, 0)) :: mpE Try.prog 96 kcP kWr sc r11 y7_p3 (⟨x7.key, x7.value⟩ : Place) stt126901 :: mpF kcS vcI r10 zj19_p5 :: L) w] mixed (by simp) rfl (by kernel_rfl) (by kernel_rfl) (by kernel_rfl) (by simp) rfl H (by simp only [List.take_succ_cons, List.take_zero]; exact rfl) (by simp only [List.drop_succ_cons, List.drop_zero]; exact rfl)
                    (fun x => by simp only [ov, Act.put, List.setIfInBounds_toArray, List.set_cons_succ, List.set_cons_zero, Nat.zero_add, Nat.reduceAdd]; exact rfl) ?_ ?_ ?_ ?_
                  · refine ⟨?_, ?_, ?_, ?_, ?_, ?_, ?_, ?_, trivial⟩
                    · intro w x hS; have H : Holds E sc (pt b9 (.cells #[.string x7.key, .int .i64 x7.value] 108 (0, 0)) :: pt b7 (.cells #[.int .i64 x7.kind, .string x7.key, .int .i64 x7.value, .slice A3e2 x7.list.length c3e2, .bool x7.has, .bool x7.isNil] 35 (0, 0)) :: pt b5 (.cells #[.int .i64 x3.proc, .int .i64 x3.state, .int .i64 x3.from_, .int .i64 x3.to, .slice (some ⟨be2, oe2, none⟩) x3.ops.length c4e1] 30 (0, 0)) :: (kT.sh sc).Osl (.slice Av1 u2.length cv1) u2 :: pt b13 (.cells #[.slice Av1 u2.length cv1, .map (some r10), .map (some r11), .bool true] 98 (0, 0)) :: mpO kcP kWr sc r11 y7_p3 :: mpF kcS vcI r10 zj19_p5 :: L) w := hS; replace H := H.front 4 rfl; simp only [List.eraseIdx_cons_succ, List.eraseIdx_cons_zero] at H; replace H := H.front 1 rfl; simp only [List.eraseIdx_cons_succ, List.eraseIdx_cons_zero] at H; exact ⟨_, _, Sub.refl _, H⟩
                    · intro w x hS; obtain ⟨b79, e8, H⟩ := hS; replace H := H.front 5 rfl; simp only [List.eraseIdx_cons_succ, List.eraseIdx_cons_zero] at H; replace H := H.front 2 rfl; simp only [List.eraseIdx_cons_succ, List.eraseIdx_cons_zero] at H; exact ⟨_, _, Sub.refl _, H⟩
                    · intro w x hS; obtain ⟨b79, At126901, ct126901, stt126901, e8, e9, H⟩ := hS; replace H := H.front 6 rfl; simp only [List.eraseIdx_cons_succ, List.eraseIdx_cons_zero] at H; replace H := H.front 3 rfl; simp only [List.eraseIdx_cons_succ, List.eraseIdx_cons_zero] at H; exact ⟨_, _, Sub.refl _, H⟩
                    · intro w x hS; obtain ⟨b79, At126901, ct126901, stt126901, e8, e9, e10, H⟩ := hS; replace H := H.front 6 rfl; simp only [List.eraseIdx_cons_succ, List.eraseIdx_cons_zero] at H; replace H := H.front 3 rfl; simp only [List.eraseIdx_cons_succ, List.eraseIdx_cons_zero] at H; exact ⟨_, _, Sub.refl _, H⟩
                    · intro w x hS; obtain ⟨b79, At126901, ct126901, stt126901, e8, e9, e12, H⟩ := hS; replace H := H.front 6 rfl; simp only [List.eraseIdx_cons_succ, List.eraseIdx_cons_zero] at H; replace H := H.front 3 rfl; simp only [List.eraseIdx_cons_succ, List.eraseIdx_cons_zero] at H; exact ⟨_, _, Sub.refl _, H⟩
                    · intro w x hS; obtain ⟨b79, At126901, ct126901, stt126901, Av127101, cv127101, e8, e9, e10, e11, H⟩ := hS; replace H := H.front 5 rfl; simp only [List.eraseIdx_cons_succ, List.eraseIdx_cons_zero] at H; replace H := H.front 2 rfl; simp only [List.eraseIdx_cons_succ, List.eraseIdx_cons_zero] at H; exact ⟨_, _, Sub.refl _, H⟩
                    · intro w x hS; obtain ⟨b79, At126901, ct126901, stt126901, e8, e9, e10, e12, H⟩ := hS; replace H := H.front 6 rfl; simp only [List.eraseIdx_cons_succ, List.eraseIdx_cons_zero] at H; replace H := H.front 3 rfl; simp only [List.eraseIdx_cons_succ, List.eraseIdx_cons_zero] at H; exact ⟨_, _, Sub.refl _, H⟩
                    · intro w x hS; obtain ⟨b79, At126901, ct126901, stt126901, Av127101, cv127101, e8, e9, e10, e11, e12, H⟩ := hS; replace H := H.front 5 rfl; simp only [List.eraseIdx_cons_succ, List.eraseIdx_cons_zero] at H; replace H := H.front 2 rfl; simp only [List.eraseIdx_cons_succ, List.eraseIdx_cons_zero] at H; exact ⟨_, _, Sub.refl _, H⟩
                  · refine ⟨?_, ?_, ?_, ?_, ?_, ?_, ?_, ?_, ?_, ?_, ?_, ?_, ?_, trivial⟩
                    · refine .inr ?_; intro s' R w' x Φ hs H hx hΦ; refine wantG rfl ?_; refine O_mv rfl rfl ?_; exact hΦ
                    · refine .inr ?_; intro s' R w' x Φ hs H hx hΦ; have e0 : x 0 = .pointer (some ⟨b13, 0, none⟩) := hx 0 (by decide) (by decide); simp only [e0]; refine wantG rfl ?_; refine O_nil rfl rfl ?_; exact hΦ
                    · refine .inr ?_; intro s' R w' x Φ hs H hx hΦ; have e1 : x 1 = .pointer (some ⟨b13, 0, none⟩) := hx 1 (by decide) (by decide); simp only [e1]; refine wantG rfl ?_; refine O_fld rfl Try.underlying98 rfl (Try.sizeOf96 _) rfl ?_; exact hΦ
                    · refine .inr ?_; intro s' R w' x Φ hs H hx hΦ; have e2 : x 2 = .pointer (some ⟨b13, 2, none⟩) := hx 2 (by decide) (by decide); simp only [e2]; refine wantG rfl ?_; refine L_1 1 _ _ rfl (Try.isAgg96 _) rfl H rfl rfl ?_; exact hΦ
                    · refine .inr ?_; intro s' R w' x Φ hs H hx hΦ; refine wantG rfl ?_; refine G_pNi 0 _ _ rfl (Try.isAgg108 _) rfl H rfl (Try.sizeOf108 _) ?_; exact hΦ
                    · refine .inr ?_; intro s' R w' x Φ hs H hx hΦ; refine wantG rfl ?_; refine O_mv rfl rfl ?_; exact hΦ
                    · refine .inr ?_; intro s' R w' x Φ hs H hx hΦ; refine wantG rfl ?_; refine O_mv rfl rfl ?_; exact hΦ
                    · refine .inr ?_; intro s' R w' x Φ hs H hx hΦ; have e5 : x 5 = .int .i64 (k3 : Int) := hx 5 (by decide) (by decide); have e6 : x 6 = .int .i64 (k7 : Int) := hx 6 (by decide) (by decide); simp only [e5, e6]; refine wantG rfl ?_; refine O_bld (cs := [.int .i64 (k3 : Int), .int .i64 (k7 : Int)]) rfl (by kernel_rfl) ?_; exact hΦ
                    · exact .inl (by decide)
                    · exact .inl (by decide)
                    · exact .inl (by decide)
                    · exact .inl (by decide)
                    · exact .inl (by decide)
                  · refine ⟨?_, ?_, ?_, ?_, ?_, ?_, ?_, ?_, ?_, trivial⟩
                    · intro c o S0 S1 hc ho h0 h1; obtain rfl := Option.some.inj hc; obtain rfl := Option.some.inj ho; obtain rfl := Option.some.inj h0; obtain rfl := Option.some.inj h1; intro w' x Φ hS hx hΦ
                      have H : Holds E sc (pt b9 (.cells #[.string x7.key, .int .i64 x7.value] 108 (0, 0)) :: pt b7 (.cells #[.int .i64 x7.kind, .string x7.key, .int .i64 x7.value, .slice A3e2 x7.list.length c3e2, .bool x7.has, .bool x7.isNil] 35 (0, 0)) :: pt b5 (.cells #[.int .i64 x3.proc, .int .i64 x3.state, .int .i64 x3.from_, .int .i64 x3.to, .slice (some ⟨be2, oe2, none⟩) x3.ops.length c4e1] 30 (0, 0)) :: (kT.sh sc).Osl (.slice Av1 u2.length cv1) u2 :: pt b13 (.cells #[.slice Av1 u2.length cv1, .map (some r10), .map (some r11), .bool true] 98 (0, 0)) :: mpO kcP kWr sc r11 y7_p3 :: mpF kcS vcI r10 zj19_p5 :: L) w' := hS; clear hS
                      have e7 : x 7 = .agg #[.int .i64 (k3 : Int), .int .i64 (k7 : Int)] := hx 7 (by decide) (by decide)
                      simp only [e7]
                      refine wantG rfl ?_
                      refine SL_1 rfl (v := .agg #[.int .i64 (k3 : Int), .int .i64 (k7 : Int)]) rfl Try.underlying51 Try.sizeOf41 Try.zeroValue41 rfl rfl (by decide) (by decide) H ?_; clear H; intro b79 w1 H; (try simp only [Value.cells] at H)
                      exact hΦ _ _ ⟨b79, updV_same, H⟩
                    · intro c o S0 S1 hc ho h0 h1; obtain rfl := Option.some.inj hc; obtain rfl := Option.some.inj ho; obtain rfl := Option.some.inj h0; obtain rfl := Option.some.inj h1; intro w' x Φ hS hx hΦ
                      obtain ⟨b79, e8, H⟩ := hS
                      have e3 : x 3 = .map (some r11) := hx 3 (by decide) (by decide)
                      have e4 : x 4 = .agg #[.string x7.key, .int .i64 x7.value] := hx 4 (by decide) (by decide)
                      simp only [e3, e4]
                      refine wantG rfl ?_
                      refine E_entry mk_P 6 96 _ _ rfl Try.underlying96 (k := (⟨x7.key, x7.value⟩ : Place)) ⟨(Nat.le_trans h1e2 (by decide)), h2e2⟩ rfl rfl H rfl (fun w => Try.zeroValue51 w) ?_; clear H; intro At126901 ct126901 stt126901 w1 H; simp only [List.set_cons_succ, List.set_cons_zero] at H
                      exact hΦ _ _ ⟨b79, At126901, ct126901, stt126901, (updV_ne (by decide)).trans e8, updV_same, H⟩
                    · intro c o S0 S1 hc ho h0 h1; obtain rfl := Option.some.inj hc; obtain rfl := Option.some.inj ho; obtain rfl := Option.some.inj h0; obtain rfl := Option.some.inj h1; intro w' x Φ hS hx hΦ
                      obtain ⟨b79, At126901, ct126901, stt126901, e8, e9, H⟩ := hS
                      simp only [e9]
                      refine wantG rfl ?_
                      refine O_ext rfl rfl rfl ?_
                      exact hΦ _ _ ⟨b79, At126901, ct126901, stt126901, (updV_ne (by decide)).trans e8, (updV_ne (by decide)).trans e9, updV_same, H⟩
                    · intro c o S0 S1 hc ho h0 h1; obtain rfl := Option.some.inj hc; obtain rfl := Option.some.inj ho; obtain rfl := Option.some.inj h0; obtain rfl := Option.some.inj h1; intro w' x Φ hS hx hΦ
                      obtain ⟨b79, At126901, ct126901, stt126901, e8, e9, H⟩ := hS
                      simp only [e9]
                      refine wantG rfl ?_
                      refine O_ext rfl rfl rfl ?_
                      exact hΦ _ _ ⟨b79, At126901, ct126901, stt126901, (updV_ne (by decide)).trans e8, (updV_ne (by decide)).trans e9, updV_same, H⟩
                    · intro c o S0 S1 hc ho h0 h1; obtain rfl := Option.some.inj hc; obtain rfl := Option.some.inj ho; obtain rfl := Option.some.inj h0; obtain rfl := Option.some.inj h1; intro w' x Φ hS hx hΦ
                      obtain ⟨b79, At126901, ct126901, stt126901, e8, e9, e10, H⟩ := hS
                      simp only [e8, e10]
                      refine wantG rfl ?_
                      replace H := H.front 1 rfl; simp only [List.eraseIdx_cons_succ, List.eraseIdx_cons_zero] at H
                      refine AP_1 (p := (⟨(k3 : Int), (k7 : Int)⟩ : Wr)) 0 kWr_at _ _ rfl (kWr_mk' (s := sc) (x := (⟨(k3 : Int), (k7 : Int)⟩ : Wr)) (nat_i (Nat.le_of_lt hl3) hn3) (nat_i (Nat.le_of_lt hl7) hn7)) H rfl rfl rfl hroomgx127101 ?_; clear H; intro v127101 w1 H; (try simp only [List.set_cons_succ, List.set_cons_zero] at H)
                      rw [← egx127101] at H
                      obtain ⟨Av127101, cv127101, rfl, -⟩ := (H.front 0 rfl).len
                      exact hΦ _ _ ⟨b79, At126901, ct126901, stt126901, Av127101, cv127101, (updV_ne (by decide)).trans e8, (updV_ne (by decide)).trans e9, (updV_ne (by decide)).trans e10, updV_same, H⟩
                    · intro c o S0 S1 hc ho h0 h1; obtain rfl := Option.some.inj hc; obtain rfl := Option.some.inj ho; obtain rfl := Option.some.inj h0; obtain rfl := Option.some.inj h1; intro w' x Φ hS hx hΦ
                      obtain ⟨b79, At126901, ct126901, stt126901, e8, e9, e10, H⟩ := hS
                      simp only [e9]
                      refine wantG rfl ?_
                      refine O_ext rfl rfl rfl ?_
                      exact hΦ _ _ ⟨b79, At126901, ct126901, stt126901, (updV_ne (by decide)).trans e8, (updV_ne (by decide)).trans e9, (updV_ne (by decide)).trans e10, updV_same, H⟩
                    · intro c o S0 S1 hc ho h0 h1; obtain rfl := Option.some.inj hc; obtain rfl := Option.some.inj ho; obtain rfl := Option.some.inj h0; obtain rfl := Option.some.inj h1; intro w' x Φ hS hx hΦ
                      obtain ⟨b79, At126901, ct126901, stt126901, e8, e9, e12, H⟩ := hS
                      simp only [e9]
                      refine wantG rfl ?_
                      refine O_ext rfl rfl rfl ?_
                      replace H := H.front 8 rfl; simp only [List.eraseIdx_cons_succ, List.eraseIdx_cons_zero] at H
                      replace H := H.front 8 rfl; simp only [List.eraseIdx_cons_succ, List.eraseIdx_cons_zero] at H
                      replace H := H.front 8 rfl; simp only [List.eraseIdx_cons_succ, List.eraseIdx_cons_zero] at H
                      replace H := H.front 8 rfl; simp only [List.eraseIdx_cons_succ, List.eraseIdx_cons_zero] at H
                      replace H := H.front 8 rfl; simp only [List.eraseIdx_cons_succ, List.eraseIdx_cons_zero] at H
                      replace H := H.front 8 rfl; simp only [List.eraseIdx_cons_succ, List.eraseIdx_cons_zero] at H
                      replace H := H.front 8 rfl; simp only [List.eraseIdx_cons_succ, List.eraseIdx_cons_zero] at H
                      replace H := H.front 8 rfl; simp only [List.eraseIdx_cons_succ, List.eraseIdx_cons_zero] at H
                      replace H := H.front 8 rfl; simp only [List.eraseIdx_cons_succ, List.eraseIdx_cons_zero] at H
                      exact hΦ _ _ ⟨b79, At126901, ct126901, stt126901, (updV_ne (by decide)).trans e8, (updV_ne (by decide)).trans e9, updV_same, (updV_ne (by decide)).trans e12, H⟩
                    · intro c o S0 S1 hc ho h0 h1; obtain rfl := Option.some.inj hc; obtain rfl := Option.some.inj ho; obtain rfl := Option.some.inj h0; obtain rfl := Option.some.inj h1; intro w' x Φ hS hx hΦ
                      obtain ⟨b79, At126901, ct126901, stt126901, Av127101, cv127101, e8, e9, e10, e11, H⟩ := hS
                      simp only [e9]
                      refine wantG rfl ?_
                      refine O_ext rfl rfl rfl ?_
                      exact hΦ _ _ ⟨b79, At126901, ct126901, stt126901, Av127101, cv127101, (updV_ne (by decide)).trans e8, (updV_ne (by decide)).trans e9, (updV_ne (by decide)).trans e10, (updV_ne (by decide)).trans e11, updV_same, H⟩
                    · intro c o S0 S1 hc ho h0 h1; obtain rfl := Option.some.inj hc; obtain rfl := Option.some.inj ho; obtain rfl := Option.some.inj h0; obtain rfl := Option.some.inj h1; intro w' x Φ hS hx hΦ
                      obtain ⟨b79, At126901, ct126901, stt126901, e8, e9, e10, e12, H⟩ := hS
                      simp only [e8, e10]
                      refine wantG rfl ?_
                      replace H := H.front 1 rfl; simp only [List.eraseIdx_cons_succ, List.eraseIdx_cons_zero] at H
                      refine AP_1 (p := (⟨(k3 : Int), (k7 : Int)⟩ : Wr)) 0 kWr_at _ _ rfl (kWr_mk' (s := sc) (x := (⟨(k3 : Int), (k7 : Int)⟩ : Wr)) (nat_i (Nat.le_of_lt hl3) hn3) (nat_i (Nat.le_of_lt hl7) hn7)) H rfl rfl rfl hroomgx127101 ?_; clear H; intro v127101 w1 H; (try simp only [List.set_cons_succ, List.set_cons_zero] at H)
                      rw [← egx127101] at H
                      obtain ⟨Av127101, cv127101, rfl, -⟩ := (H.front 0 rfl).len
                      replace H := H.front 7 rfl; simp only [List.eraseIdx_cons_succ, List.eraseIdx_cons_zero] at H
                      replace H := H.front 7 rfl; simp only [List.eraseIdx_cons_succ, List.eraseIdx_cons_zero] at H
                      replace H := H.front 7 rfl; simp only [List.eraseIdx_cons_succ, List.eraseIdx_cons_zero] at H
                      replace H := H.front 7 rfl; simp only [List.eraseIdx_cons_succ, List.eraseIdx_cons_zero] at H
                      replace H := H.front 7 rfl; simp only [List.eraseIdx_cons_succ, List.eraseIdx_cons_zero] at H
                      replace H := H.front 7 rfl; simp only [List.eraseIdx_cons_succ, List.eraseIdx_cons_zero] at H
                      replace H := H.front 7 rfl; simp only [List.eraseIdx_cons_succ, List.eraseIdx_cons_zero] at H
                      replace H := H.front 7 rfl; simp only [List.eraseIdx_cons_succ, List.eraseIdx_cons_zero] at H
                      exact hΦ _ _ ⟨b79, At126901, ct126901, stt126901, Av127101, cv127101, (updV_ne (by decide)).trans e8, (updV_ne (by decide)).trans e9, (updV_ne (by decide)).trans e10, updV_same, (updV_ne (by decide)).trans e12, H⟩
                  · clear H
                    intro w' x hS hx
                    obtain ⟨b79, At126901, ct126901, stt126901, Av127101, cv127101, e8, e9, e10, e11, e12, H⟩ := hS
                    have e0 : x 0 = .pointer (some ⟨b13, 0, none⟩) := hx 0 (by decide) (by decide)
                    have e1 : x 1 = .pointer (some ⟨b13, 0, none⟩) := hx 1 (by decide) (by decide)
                    have e2 : x 2 = .pointer (some ⟨b13, 2, none⟩) := hx 2 (by decide) (by decide)
                    have e3 : x 3 = .map (some r11) := hx 3 (by decide) (by decide)
                    have e4 : x 4 = .agg #[.string x7.key, .int .i64 x7.value] := hx 4 (by decide) (by decide)
                    have e5 : x 5 = .int .i64 (k3 : Int) := hx 5 (by decide) (by decide)
                    have e6 : x 6 = .int .i64 (k7 : Int) := hx 6 (by decide) (by decide)
                    have e7 : x 7 = .agg #[.int .i64 (k3 : Int), .int .i64 (k7 : Int)] := hx 7 (by decide) (by decide)
                    simp only [e0, e1, e2, e3, e4, e5, e6, e7, e8, e9, e10, e11, e12]
                    clear hx
                    refine OpG.list rfl ?_; refine E_store 5 96 _ _ _ rfl rfl rfl rfl H rfl ?_; clear H; intro w1 H; simp only [List.set_cons_succ, List.set_cons_zero] at H
                    (try simp only [Act.put, List.setIfInBounds_toArray, List.set_cons_succ, List.set_cons_zero])
                    refine list_end ?_
                    refine block_norm ?_
                    refine then_norm ?_
                    refine wp_region_lit ?_
                    apply seq_op (V := .int .i64 (IntKind.i64.wrap ((k7 : Int) + 1))) rfl
                    · intro Φ hΦ; refine O_bin rfl rfl rfl eqg_int r_add ?_; exact hΦ
                    (try simp only [Act.put, List.setIfInBounds_toArray, List.set_cons_succ, List.set_cons_zero])
                    apply seq_op (V := .int .i64 (IntKind.i64.wrap ((k7 : Int) + 1))) rfl
                    · intro Φ hΦ; refine O_mv rfl rfl ?_; exact hΦ
                    (try simp only [Act.put, List.setIfInBounds_toArray, List.set_cons_succ, List.set_cons_zero])
                    refine list_end ?_
                    refine then_norm ?_
                    replace H := H.drop
                    replace H := H.drop
                    refine ⟨⟨⟨rfl, rfl, rfl, rfl, rfl, rfl, rfl, rfl, rfl, rfl, rfl, rfl, rfl, rfl, rfl, rfl, rfl, rfl, rfl, rfl, rfl, rfl, rfl, rfl, rfl, rfl, rfl, rfl, rfl, rfl, rfl, rfl, rfl, rfl⟩, rfl⟩, ⟨k7 + 1, _, (fset y7_p3 (⟨x7.key, x7.value⟩ : Place) u127101), zj19_p5, hd7'', wrap_succ hl7 hn7, hq7, H⟩, ?_⟩
                    exact meas_succ hl7 hn7
                · have hc8 := hc
                  clear hc
                  replace hq7 := ifF hc8 hq7
                  refine wp_skip ?_
                  refine block_norm ?_
                  refine then_norm ?_
                  refine wp_region_lit ?_
                  apply seq_op (V := .int .i64 (IntKind.i64.wrap ((k7 : Int) + 1))) rfl
                  · intro Φ hΦ; refine O_bin rfl rfl rfl eqg_int r_add ?_; exact hΦ
                  (try simp only [Act.put, List.setIfInBounds_toArray, List.set_cons_succ, List.set_cons_zero])
                  apply seq_op (V := .int .i64 (IntKind.i64.wrap ((k7 : Int) + 1))) rfl
                  · intro Φ hΦ; refine O_mv rfl rfl ?_; exact hΦ
                  (try simp only [Act.put, List.setIfInBounds_toArray, List.set_cons_succ, List.set_cons_zero])
                  refine list_end ?_
                  refine then_norm ?_
                  replace H := H.drop
                  refine ⟨⟨⟨rfl, rfl, rfl, rfl, rfl, rfl, rfl, rfl, rfl, rfl, rfl, rfl, rfl, rfl, rfl, rfl, rfl, rfl, rfl, rfl, rfl, rfl, rfl, rfl, rfl, rfl, rfl, rfl, rfl, rfl, rfl, rfl, rfl, rfl⟩, rfl⟩, ⟨k7 + 1, _, y7_p3, zj19_p5, hd7'', wrap_succ hl7 hn7, hq7, H⟩, ?_⟩
                  exact meas_succ hl7 hn7
          · have hc2 := hc
            clear hc
            obtain rfl := rng_f hd7 hc2
            rw [table_New_l7] at hq7
            refine wp_exit ?_
            refine then_exit ?_
            refine then_exit ?_
            have hq7 := Option.some.inj hq7
            subst hq7
            (try dsimp only at hq3)
            refine block_exit ?_
            refine block_norm ?_
            refine then_norm ?_
            refine wp_region_lit ?_
            apply seq_op (V := .int .i64 (IntKind.i64.wrap ((k3 : Int) + 1))) rfl
            · intro Φ hΦ; refine O_bin rfl rfl rfl eqg_int r_add ?_; exact hΦ
            (try simp only [Act.put, List.setIfInBounds_toArray, List.set_cons_succ, List.set_cons_zero])
            apply seq_op (V := .int .i64 (IntKind.i64.wrap ((k3 : Int) + 1))) rfl
            · intro Φ hΦ; refine O_mv rfl rfl ?_; exact hΦ
            (try simp only [Act.put, List.setIfInBounds_toArray, List.set_cons_succ, List.set_cons_zero])
            refine list_end ?_
            refine then_norm ?_
            replace H := H.drop
            refine ⟨⟨⟨rfl, rfl, rfl, rfl, rfl, rfl, rfl, rfl, rfl, rfl, rfl, rfl⟩, rfl⟩, ⟨k3 + 1, _, sc, u2, Av1, cv1, y7_p3, y7_p4, hs3, hd3'', wrap_succ hl3 hn3, hq3, H⟩, ?_⟩
            exact meas_succ hl3 hn3
    · have hc1 := hc
      clear hc
      obtain rfl := rng_f hd3 hc1
      rw [table_New_l3] at hq3
      refine wp_exit ?_
      refine then_exit ?_
      refine then_exit ?_
      have hq3 := Option.some.inj hq3
      subst hq3
      (try dsimp only at hm)
      refine block_exit ?_
      refine then_norm ?_
      refine wp_seq ?_
      refine wp_region_lit ?_
      apply seq_op (V := .pointer (some ⟨b13, 0, none⟩)) rfl
      · intro Φ hΦ; refine O_mv rfl rfl ?_; exact hΦ
      (try simp only [Act.put, List.setIfInBounds_toArray, List.set_cons_succ, List.set_cons_zero])
      apply seq_op (V := .pointer (some ⟨b13, 0, none⟩)) rfl
      · intro Φ hΦ; refine O_as rfl rfl ?_; exact hΦ
      (try simp only [Act.put, List.setIfInBounds_toArray, List.set_cons_succ, List.set_cons_zero])
      refine list_end ?_
      refine then_norm ?_
      refine wp_ret ?_
      have hm := Option.some.inj hm
      subst hm
      replace H := H.front 2 rfl; simp only [List.eraseIdx_cons_succ, List.eraseIdx_cons_zero] at H
      replace H := H.front 3 rfl; simp only [List.eraseIdx_cons_succ, List.eraseIdx_cons_zero] at H
      replace H := H.front 2 rfl; simp only [List.eraseIdx_cons_succ, List.eraseIdx_cons_zero] at H
      replace H := H.front 3 rfl; simp only [List.eraseIdx_cons_succ, List.eraseIdx_cons_zero] at H
      exact ret1 rfl (rv_tmp rfl) rfl ⟨b13, A_y3_c1_0, c_y3_c1_0, y3_c1_0.length, r10, r11, sL3, rfl, hS, H⟩
open Classical in
noncomputable def table_Table_Unique_f (a0 : Tbl) : Bool := if (!a0.made) = true then false else (if (∃ (k0 : Place) (x0 : List Wr), a0.writers k0 = some x0 ∧ ((decide ((x0.length : Int) > 1))) = true) then false else true)

set_option maxHeartbeats 4000000 in
theorem table_Table_Unique_w {E : World} {s : SH} {L : List HP} {w : World} {a0 : Tbl} {A_p0_l : Option Addr} {c_p0_l : Nat} (h_p0_l : kT.Sl s (.slice A_p0_l a0.l.length c_p0_l) a0.l) {r_p0_kinds : Nat} (h_p0_kinds : MapKF kcS vcI s r_p0_kinds a0.kinds) {r_p0_writers : Nat} (h_p0_writers : MapKO kcP kWr s r_p0_writers a0.writers) {b_p0 o_p0 : Nat} (hC_p0 : Cells s ⟨b_p0, o_p0, none⟩ [.slice A_p0_l a0.l.length c_p0_l, .map (some r_p0_kinds), .map (some r_p0_writers), .bool a0.made]) (H : Holds E s (L) w) :
    Calls Try.prog 17 #[.pointer (some ⟨b_p0, o_p0, none⟩)] w fun e w' => e = .returned (.bool (table_Table_Unique_f a0)) ∧ Holds E s (L) w' := by
  obtain ⟨R, hm⟩ : ∃ R, table_Table_Unique_f a0 = R := ⟨_, rfl⟩
  (try rw [hm])
  unfold table_Table_Unique_f at hm
  go_enter Try.func17, Try.ntmps17
  refine wp_seq ?_
  refine wp_region_lit ?_
  apply seq_op (V := .bool false) rfl
  · intro Φ hΦ; refine O_as rfl rfl ?_; exact hΦ
  (try simp only [Act.put, List.setIfInBounds_toArray, List.set_cons_succ, List.set_cons_zero])
  refine list_end ?_
  refine then_norm ?_
  refine wp_seq ?_
  refine wp_seq ?_
  refine wp_region_lit ?_
  apply seq_op (V := .pointer (some ⟨b_p0, o_p0, none⟩)) rfl
  · intro Φ hΦ; refine O_mv rfl rfl ?_; exact hΦ
  (try simp only [Act.put, List.setIfInBounds_toArray, List.set_cons_succ, List.set_cons_zero])
  apply seq_op (V := .bool false) rfl
  · intro Φ hΦ; refine O_bin rfl rfl rfl eqg_ptr (r_pnil Try.underlying24) ?_; exact hΦ
  (try simp only [Act.put, List.setIfInBounds_toArray, List.set_cons_succ, List.set_cons_zero])
  apply seq_op (V := .bool false) rfl
  · intro Φ hΦ; refine O_mv rfl rfl ?_; exact hΦ
  (try simp only [Act.put, List.setIfInBounds_toArray, List.set_cons_succ, List.set_cons_zero])
  refine seq_opw (V := .pointer (some ⟨b_p0, o_p0, none⟩)) ((wanted_f rfl rfl rfl).trans (congrArg not rfl)) ?_ ?_
  · intro Φ hΦ; refine O_mv rfl rfl ?_; exact hΦ
  (try simp only [Act.put, List.setIfInBounds_toArray, List.set_cons_succ, List.set_cons_zero])
  refine seq_opw (V := .pointer (some ⟨b_p0, o_p0, none⟩)) ((wanted_f rfl rfl rfl).trans (congrArg not rfl)) ?_ ?_
  · intro Φ hΦ; refine O_nil rfl rfl ?_; exact hΦ
  (try simp only [Act.put, List.setIfInBounds_toArray, List.set_cons_succ, List.set_cons_zero])
  refine seq_opw (V := .pointer (some ⟨b_p0, o_p0 + 3, none⟩)) ((wanted_f rfl rfl rfl).trans (congrArg not rfl)) ?_ ?_
  · intro Φ hΦ; refine O_fld rfl Try.underlying98 rfl (Try.sizeOf4 _) rfl ?_; exact hΦ
  (try simp only [Act.put, List.setIfInBounds_toArray, List.set_cons_succ, List.set_cons_zero])
  refine seq_opw (V := .bool a0.made) ((wanted_f rfl rfl rfl).trans (congrArg not rfl)) ?_ ?_
  · intro Φ hΦ; refine G_s1 _ _ rfl (Try.isAgg4 _) rfl H hC_p0 3 rfl rfl ?_; exact hΦ
  (try simp only [Act.put, List.setIfInBounds_toArray, List.set_cons_succ, List.set_cons_zero])
  refine seq_opw (V := .bool (!a0.made)) ((wanted_f rfl rfl rfl).trans (congrArg not rfl)) ?_ ?_
  · intro Φ hΦ; refine O_not rfl rfl ?_; exact hΦ
  (try simp only [Act.put, List.setIfInBounds_toArray, List.set_cons_succ, List.set_cons_zero])
  apply seq_op (V := .bool (!a0.made)) rfl
  · intro Φ hΦ; refine O_pickF rfl rfl rfl rfl ?_; exact hΦ
  (try simp only [Act.put, List.setIfInBounds_toArray, List.set_cons_succ, List.set_cons_zero])
  refine list_end ?_
  refine then_norm ?_
  refine wp_cond_split rfl (fun hc => ?_) (fun hc => ?_)
  · have hc1 := hc
    clear hc
    replace hm := ifT hc1 hm
    refine wp_seq ?_
    refine wp_region_lit ?_
    apply seq_op (V := .bool false) rfl
    · intro Φ hΦ; refine O_as rfl rfl ?_; exact hΦ
    (try simp only [Act.put, List.setIfInBounds_toArray, List.set_cons_succ, List.set_cons_zero])
    refine list_end ?_
    refine then_norm ?_
    refine wp_ret ?_
    refine then_ret ?_
    subst hm
    exact ret1 rfl (rv_tmp rfl) rfl ⟨rfl, H⟩
  · have hc1 := hc
    clear hc
    replace hm := ifF hc1 hm
    refine wp_skip ?_
    refine then_norm ?_
    refine wp_seq ?_
    refine wp_seq ?_
    refine wp_region_lit ?_
    apply seq_op (V := .pointer (some ⟨b_p0, o_p0, none⟩)) rfl
    · intro Φ hΦ; refine O_mv rfl rfl ?_; exact hΦ
    (try simp only [Act.put, List.setIfInBounds_toArray, List.set_cons_succ, List.set_cons_zero])
    apply seq_op (V := .pointer (some ⟨b_p0, o_p0, none⟩)) rfl
    · intro Φ hΦ; refine O_nil rfl rfl ?_; exact hΦ
    (try simp only [Act.put, List.setIfInBounds_toArray, List.set_cons_succ, List.set_cons_zero])
    apply seq_op (V := .pointer (some ⟨b_p0, o_p0 + 2, none⟩)) rfl
    · intro Φ hΦ; refine O_fld rfl Try.underlying98 rfl (Try.sizeOf96 _) rfl ?_; exact hΦ
    (try simp only [Act.put, List.setIfInBounds_toArray, List.set_cons_succ, List.set_cons_zero])
    apply seq_op (V := .map (some r_p0_writers)) rfl
    · intro Φ hΦ; refine G_s1 _ _ rfl (Try.isAgg96 _) rfl H hC_p0 2 rfl rfl ?_; exact hΦ
    (try simp only [Act.put, List.setIfInBounds_toArray, List.set_cons_succ, List.set_cons_zero])
    obtain ⟨mm1, vsm1, ⟨hmm1, hum1, hokm1, hlm1⟩, ⟨esm1, cm1, hrm1, hem1, hwfm1⟩, hslm1⟩ := id h_p0_writers
    refine OpG.list rfl ?_; refine G_rangeS 96 _ rfl Try.underlying96 rfl H hrm1 ?_; clear H; intro itm1 w1 H
    (try simp only [Act.put, List.setIfInBounds_toArray, List.set_cons_succ, List.set_cons_zero])
    refine list_end ?_
    refine then_norm ?_
    refine wp_block ?_
    refine wp_loopN [none, none, some 2, none, some 4, none, none, none, none, none, none, none, none, none, none, none, none, none, none, some 19, some 20, some 21, some 22, some 23, some 24, some 25] rfl (by simp) (fun n f w => ∃ (seen : Array Nat) (done : List MapEntry), n = esm1.size - done.length ∧ seen.toList = done.map (·.born) ∧ (∀ e ∈ done, e ∈ esm1.toList) ∧ (done.map (·.born)).Nodup ∧ (∀ (k0 : Place) (x0 : List Wr), (∃ e ∈ done, e.key = kcP.enc k0) → a0.writers k0 = some x0 → ((decide ((x0.length : Int) > 1))) = false) ∧ Holds E s (pt itm1 (.mapIter (some r_p0_writers) cm1 seen cm1) :: L) w) ?_ ?_
    · exact ⟨_, #[], [], rfl, rfl, (fun e h => (List.not_mem_nil h).elim), List.Pairwise.nil, (fun k x ⟨e, h, _⟩ => (List.not_mem_nil h).elim), H⟩
    · clear H
      intro n f w hI
      obtain ⟨seen, done, hn, hseen, hd, hnd, hg1, H⟩ := hI
      simp only [ovm, mixM]
      refine wp_seq ?_
      refine wp_region_lit ?_
      refine OpG.list rfl ?_; refine G_nextS 0 _ rfl rfl H rfl hrm1 hwfm1 ?_; clear H; intro b e w1 hb1 hb2 H; simp only [List.set_cons_succ, List.set_cons_zero] at H
      (try simp only [Act.put, List.setIfInBounds_toArray, List.set_cons_succ, List.set_cons_zero])
      refine OpG.list rfl ?_; refine G_extract0 _ rfl rfl ?_
      (try simp only [Act.put, List.setIfInBounds_toArray, List.set_cons_succ, List.set_cons_zero])
      refine list_end ?_
      refine then_norm ?_
      refine wp_seq ?_
      refine wp_cond_split rfl (fun hc => ?_) (fun hc => ?_)
      · subst hc
        simp only [if_true] at H
        refine wp_skip ?_
        refine then_norm ?_
        obtain ⟨key, val, born⟩ := e
        obtain ⟨hin, hnew⟩ := hb1 rfl
        obtain ⟨k0, A0, x0, c0, ek, hk0, hf0, ev, hS0⟩ := KO_ent hmm1 hum1 hokm1 hlm1 hem1 hslm1 hin
        subst ek; subst ev
        replace hm := any_step (c := (decide ((x0.length : Int) > 1))) (fun hcc => ⟨k0, x0, hf0, hcc⟩) hm
        refine wp_block ?_
        refine wp_seq ?_
        refine wp_region_lit ?_
        refine OpG.list rfl ?_; refine G_entryS 0 _ rfl rfl H rfl hrm1 hwfm1 hin ?_
        (try simp only [Act.put, List.setIfInBounds_toArray, List.set_cons_succ, List.set_cons_zero])
        apply seq_op (V := .slice A0 x0.length c0) rfl
        · intro Φ hΦ; refine O_ext rfl rfl rfl ?_; exact hΦ
        (try simp only [Act.put, List.setIfInBounds_toArray, List.set_cons_succ, List.set_cons_zero])
        apply seq_op (V := .slice A0 x0.length c0) rfl
        · intro Φ hΦ; refine O_as rfl rfl ?_; exact hΦ
        (try simp only [Act.put, List.setIfInBounds_toArray, List.set_cons_succ, List.set_cons_zero])
        refine list_end ?_
        refine then_norm ?_
        refine wp_seq ?_
        refine wp_region_lit ?_
        apply seq_op (V := .slice A0 x0.length c0) rfl
        · intro Φ hΦ; refine O_mv rfl rfl ?_; exact hΦ
        (try simp only [Act.put, List.setIfInBounds_toArray, List.set_cons_succ, List.set_cons_zero])
        apply seq_op (V := .int .i64 (x0.length : Int)) rfl
        · intro Φ hΦ; refine O_len rfl Try.underlying51 rfl ?_; exact hΦ
        (try simp only [Act.put, List.setIfInBounds_toArray, List.set_cons_succ, List.set_cons_zero])
        apply seq_op (V := .bool (decide ((x0.length : Int) > 1))) rfl
        · intro Φ hΦ; refine O_bin rfl rfl rfl eqg_int r_gtr ?_; exact hΦ
        (try simp only [Act.put, List.setIfInBounds_toArray, List.set_cons_succ, List.set_cons_zero])
        refine list_end ?_
        refine then_norm ?_
        refine wp_cond_split rfl (fun hc => ?_) (fun hc => ?_)
        · have hc2 := hc
          clear hc
          replace hm := ifT hc2 hm
          refine wp_seq ?_
          refine wp_region_lit ?_
          apply seq_op (V := .bool false) rfl
          · intro Φ hΦ; refine O_as rfl rfl ?_; exact hΦ
          (try simp only [Act.put, List.setIfInBounds_toArray, List.set_cons_succ, List.set_cons_zero])
          refine list_end ?_
          refine then_norm ?_
          refine wp_ret ?_
          refine block_ret ?_
          refine then_ret ?_
          refine block_ret ?_
          refine then_ret ?_
          subst hm
          replace H := H.dropAt 0 rfl; simp only [List.eraseIdx_cons_succ, List.eraseIdx_cons_zero] at H
          exact ret1 rfl (rv_tmp rfl) rfl ⟨rfl, H⟩
        · have hc2 := hc
          clear hc
          replace hm := ifF hc2 hm
          refine wp_skip ?_
          refine block_norm ?_
          refine then_norm ?_
          have hle := nodup_le (a := (done ++ [(⟨kcP.enc k0, .slice A0 x0.length c0, born⟩ : MapEntry)]).map (fun e : MapEntry => e.born)) (b := esm1.toList.map (fun e : MapEntry => e.born)) (by rw [List.map_append, List.nodup_append]; exact ⟨hnd, by simp, fun x hx y hy e => hnew (by rw [hseen]; simp only [List.map_cons, List.map_nil, List.mem_singleton] at hy; rw [← hy, ← e]; exact hx)⟩) (fun x hx => by obtain ⟨e, he, rfl⟩ := List.mem_map.1 hx; rcases List.mem_append.1 he with h | h; exact List.mem_map.2 ⟨e, hd e h, rfl⟩; rw [List.mem_singleton.1 h]; exact List.mem_map.2 ⟨_, hin, rfl⟩)
          simp only [List.length_map, List.length_append, List.length_cons, List.length_nil, Array.length_toList] at hle
          refine ⟨⟨⟨rfl, rfl, rfl, rfl, rfl, rfl, rfl, rfl, rfl, rfl, rfl, rfl, rfl, rfl, rfl, rfl, rfl, rfl⟩, rfl⟩, esm1.size - (done.length + 1), by omega, seen.push born, done ++ [⟨kcP.enc k0, .slice A0 x0.length c0, born⟩], by simp, by simp [hseen], ?_, ?_, ?_, H⟩
          · intro e he; rcases List.mem_append.1 he with h | h; exact hd e h; rw [List.mem_singleton.1 h]; exact hin
          · rw [List.map_append, List.nodup_append]; exact ⟨hnd, by simp, fun x hx y hy e => hnew (by rw [hseen]; simp only [List.map_cons, List.map_nil, List.mem_singleton] at hy; rw [← hy, ← e]; exact hx)⟩
          · intro k x hk hx; obtain ⟨e, he, e2⟩ := hk; rcases List.mem_append.1 he with h | h; exact hg1 k x ⟨e, h, e2⟩ hx; rw [List.mem_singleton.1 h] at e2; obtain rfl := kcP_inj e2; rw [hf0] at hx; obtain rfl := Option.some.inj hx; exact hc2
      · subst hc
        simp only [Bool.false_eq_true, if_false] at H
        have hall := hb2 rfl
        replace hm := ifN (fun ⟨k0, x0, hx, hcc⟩ => by obtain ⟨e1, h1, h2⟩ := KO_all hmm1 hlm1 hem1 hx; have h3 := hall e1 h1; rw [hseen] at h3; obtain ⟨e2, h4, h5⟩ := List.mem_map.1 h3; have h6 := hg1 k0 x0 ⟨e2, h4, by rw [born_inj hwfm1.1 (hd e2 h4) h1 h5]; exact h2⟩ hx; rw [h6] at hcc; cases hcc) hm
        refine wp_exit ?_
        refine then_exit ?_
        refine then_exit ?_
        refine block_exit ?_
        refine then_norm ?_
        refine wp_seq ?_
        refine wp_region_lit ?_
        apply seq_op (V := .bool true) rfl
        · intro Φ hΦ; refine O_as rfl rfl ?_; exact hΦ
        (try simp only [Act.put, List.setIfInBounds_toArray, List.set_cons_succ, List.set_cons_zero])
        refine list_end ?_
        refine then_norm ?_
        refine wp_ret ?_
        subst hm
        replace H := H.dropAt 0 rfl; simp only [List.eraseIdx_cons_succ, List.eraseIdx_cons_zero] at H
        exact ret1 rfl (rv_tmp rfl) rfl ⟨rfl, H⟩
def assayerref04_write_f (a0 : Op') : Bool := ((a0.kind == 1) || (a0.kind == 3))

set_option maxHeartbeats 4000000 in
theorem assayerref04_write_w {E : World} {s : SH} {L : List HP} {w : World} {a0 : Op'} {A_p0_list : Option Addr} {c_p0_list : Nat} (h_p0_list : kI.Sl s (.slice A_p0_list a0.list.length c_p0_list) a0.list) (H : Holds E s (L) w) :
    Calls Try.prog 62 #[.agg #[.int .i64 a0.kind, .string a0.key, .int .i64 a0.value, .slice A_p0_list a0.list.length c_p0_list, .bool a0.has, .bool a0.isNil]] w fun e w' => e = .returned (.bool (assayerref04_write_f a0)) ∧ Holds E s (L) w' := by
  obtain ⟨R, hm⟩ : ∃ R, assayerref04_write_f a0 = R := ⟨_, rfl⟩
  (try rw [hm])
  unfold assayerref04_write_f at hm
  go_enter Try.func62, Try.ntmps62
  refine wp_seq ?_
  refine wp_region_lit ?_
  refine OpG.list rfl ?_; refine B_x 35 _ rfl (v := .agg #[.int .i64 a0.kind, .string a0.key, .int .i64 a0.value, .slice A_p0_list a0.list.length c_p0_list, .bool a0.has, .bool a0.isNil]) rfl H ?_; clear H; intro b1 w1 H; (try simp only [Value.cells] at H)
  (try simp only [Act.put, List.setIfInBounds_toArray, List.set_cons_succ, List.set_cons_zero])
  apply seq_op (V := .bool false) rfl
  · intro Φ hΦ; refine O_as rfl rfl ?_; exact hΦ
  (try simp only [Act.put, List.setIfInBounds_toArray, List.set_cons_succ, List.set_cons_zero])
  refine list_end ?_
  refine then_norm ?_
  refine wp_seq ?_
  refine wp_region_lit ?_
  apply seq_op (V := .pointer (some ⟨b1, 0, none⟩)) rfl
  · intro Φ hΦ; refine O_fld rfl Try.underlying35 rfl (Try.sizeOf3 _) rfl ?_; exact hΦ
  (try simp only [Act.put, List.setIfInBounds_toArray, List.set_cons_succ, List.set_cons_zero])
  apply seq_op (V := .int .i64 a0.kind) rfl
  · intro Φ hΦ; refine L_1 0 _ _ rfl (Try.isAgg3 _) rfl H rfl rfl ?_; exact hΦ
  (try simp only [Act.put, List.setIfInBounds_toArray, List.set_cons_succ, List.set_cons_zero])
  apply seq_op (V := .bool (a0.kind == 1)) rfl
  · intro Φ hΦ; refine O_bin rfl rfl rfl eqg_int r_eql ?_; exact hΦ
  (try simp only [Act.put, List.setIfInBounds_toArray, List.set_cons_succ, List.set_cons_zero])
  apply seq_op (V := .bool (a0.kind == 1)) rfl
  · intro Φ hΦ; refine O_mv rfl rfl ?_; exact hΦ
  (try simp only [Act.put, List.setIfInBounds_toArray, List.set_cons_succ, List.set_cons_zero])
  refine seq_opg (c := (!(a0.kind == 1))) (V := .pointer (some ⟨b1, 0, none⟩)) (by first | exact wanted_f rfl rfl rfl | exact wanted_vf rfl rfl rfl) ?_ ?_
  · intro hc Φ hΦ; refine O_fld rfl Try.underlying35 rfl (Try.sizeOf3 _) rfl ?_; exact hΦ
  (try simp only [Act.put, List.setIfInBounds_toArray, List.set_cons_succ, List.set_cons_zero])
  refine seq_opg (c := (!(a0.kind == 1))) (V := .int .i64 a0.kind) (by first | exact wanted_f rfl rfl rfl | exact wanted_vf rfl rfl rfl) ?_ ?_
  · intro hc Φ hΦ; (repeat (first | rw [vg_of hc] | rw [vg_of (and_l hc)] | rw [vg_of (and_l (and_l hc))] | rw [vg_of (and_l (and_l (and_l hc)))] | rw [vg_and hc])); refine L_1 0 _ _ rfl (Try.isAgg3 _) rfl H rfl rfl ?_; exact hΦ
  (try simp only [Act.put, List.setIfInBounds_toArray, List.set_cons_succ, List.set_cons_zero])
  refine seq_opg (c := (!(a0.kind == 1))) (V := .bool (a0.kind == 3)) (by first | exact wanted_f rfl rfl rfl | exact wanted_vf rfl rfl rfl) ?_ ?_
  · intro hc Φ hΦ; (repeat (first | rw [vg_of hc] | rw [vg_of (and_l hc)] | rw [vg_of (and_l (and_l hc))] | rw [vg_of (and_l (and_l (and_l hc)))] | rw [vg_and hc])); refine O_bin rfl rfl rfl eqg_int r_eql ?_; exact hΦ
  (try simp only [Act.put, List.setIfInBounds_toArray, List.set_cons_succ, List.set_cons_zero])
  apply seq_op (V := .bool ((a0.kind == 1) || (a0.kind == 3))) rfl
  · intro Φ hΦ; refine G_or _ _ _ rfl rfl rfl rfl ?_; exact hΦ
  (try simp only [Act.put, List.setIfInBounds_toArray, List.set_cons_succ, List.set_cons_zero])
  apply seq_op (V := .bool ((a0.kind == 1) || (a0.kind == 3))) rfl
  · intro Φ hΦ; refine O_as rfl rfl ?_; exact hΦ
  (try simp only [Act.put, List.setIfInBounds_toArray, List.set_cons_succ, List.set_cons_zero])
  refine list_end ?_
  refine then_norm ?_
  refine wp_ret ?_
  subst hm
  replace H := H.dropAt 0 rfl; simp only [List.eraseIdx_cons_succ, List.eraseIdx_cons_zero] at H
  exact ret1 rfl (rv_tmp rfl) rfl ⟨rfl, H⟩
def assayerref04_Writers_l6 (a1 : ByteArray) (a2 : Int) (k3 : Nat) : Nat → List Op' → (List Wr) → Option (((List Wr)))
  | k6, [] , y6_7 => some y6_7
  | k6, x6 :: r6, y6_7 => if (((assayerref04_write_f x6) && (x6.key.toList == a1.toList)) && (x6.value == a2)) = true then ((app 16 y6_7 (⟨(k3 : Int), (k6 : Int)⟩ : Wr)).bind fun u1 => assayerref04_Writers_l6 a1 a2 k3 (k6 + 1) r6 u1) else (assayerref04_Writers_l6 a1 a2 k3 (k6 + 1) r6 y6_7)

def assayerref04_Writers_l3 (a1 : ByteArray) (a2 : Int) : Nat → List Txn → (List Wr) → Option (((List Wr)))
  | k3, [] , y3_7 => some y3_7
  | k3, x3 :: r3, y3_7 => (assayerref04_Writers_l6 a1 a2 k3 0 x3.ops y3_7).bind fun z6_7 => assayerref04_Writers_l3 a1 a2 (k3 + 1) r3 z6_7

def assayerref04_Writers_f (a0 : List Txn) (a1 : ByteArray) (a2 : Int) : Option ((List Wr)) := (assayerref04_Writers_l3 a1 a2 0 a0 []).bind fun z3_7 => some z3_7

set_option maxHeartbeats 4000000 in
theorem assayerref04_Writers_w {E : World} {s : SH} {L : List HP} {w : World} {a0 : List Txn} {a1 : ByteArray} {a2 : Int} {A_p0 : Option Addr} {c_p0 : Nat} (h_p0 : kT.Sl s (.slice A_p0 a0.length c_p0) a0) {R : (List Wr)} (hm : assayerref04_Writers_f a0 a1 a2 = some R) (H : Holds E s (L) w) :
    Calls Try.prog 30 #[.slice A_p0 a0.length c_p0, .string a1, .int .i64 a2] w fun e w' => ∃ A0 c0 n0, e = .returned (.slice A0 n0 c0) ∧ Holds E s ((kWr.sh s).Osl (.slice A0 n0 c0) R :: L) w' := by
  unfold assayerref04_Writers_f at hm
  go_enter Try.func30, Try.ntmps30
  refine wp_seq ?_
  refine wp_region_lit ?_
  apply seq_op (V := .slice none 0 0) rfl
  · intro Φ hΦ; refine O_as rfl rfl ?_; exact hΦ
  (try simp only [Act.put, List.setIfInBounds_toArray, List.set_cons_succ, List.set_cons_zero])
  refine list_end ?_
  refine then_norm ?_
  refine wp_seq ?_
  refine wp_region_lit ?_
  apply seq_op (V := .slice none 0 0) rfl
  · intro Φ hΦ; refine O_as rfl rfl ?_; exact hΦ
  (try simp only [Act.put, List.setIfInBounds_toArray, List.set_cons_succ, List.set_cons_zero])
  refine list_end ?_
  refine then_norm ?_
  refine wp_seq ?_
  refine wp_seq ?_
  refine wp_region_lit ?_
  apply seq_op (V := .slice A_p0 a0.length c_p0) rfl
  · intro Φ hΦ; refine O_mv rfl rfl ?_; exact hΦ
  (try simp only [Act.put, List.setIfInBounds_toArray, List.set_cons_succ, List.set_cons_zero])
  apply seq_op (V := .int .i64 (a0.length : Int)) rfl
  · intro Φ hΦ; refine O_len rfl Try.underlying22 rfl ?_; exact hΦ
  (try simp only [Act.put, List.setIfInBounds_toArray, List.set_cons_succ, List.set_cons_zero])
  apply seq_op (V := .int .i64 0) rfl
  · intro Φ hΦ; refine O_mv rfl rfl ?_; exact hΦ
  (try simp only [Act.put, List.setIfInBounds_toArray, List.set_cons_succ, List.set_cons_zero])
  refine list_end ?_
  refine then_norm ?_
  refine wp_block ?_
  replace H := Kin.Osl.nil (d := kWr.sh s) H
  obtain ⟨R3, hq3, hm⟩ := bs hm
  have hn3 := Nat.le_trans (len_le (d := kT) h_p0 (by decide)) (by decide : (140737488355328 : Nat) ≤ 9223372036854775807)
  refine wp_loopF [none, none, none, none, none, none, none, some 7, some 8, some 9, some 10, some 11, none, none, some 14, some 15, some 16, some 17, some 18, some 19, some 20, some 21, some 22, some 23, some 24, some 25, some 26, some 27, some 28, some 29, some 30, some 31, some 32, some 33, some 34, some 35, some 36, some 37, some 38, some 39, some 40, some 41, some 42, some 43, some 44, some 45, some 46, some 47, some 48, none] rfl (by simp) (fun f w => ∃ (k3 : Nat) (r3 : List Txn) (y3_7 : List Wr) (A_y3_7 : Option Addr) (c_y3_7 : Nat), a0.drop k3 = r3 ∧ f 14 = .int .i64 (k3 : Int) ∧ f 7 = .slice A_y3_7 y3_7.length c_y3_7 ∧ assayerref04_Writers_l3 a1 a2 k3 r3 y3_7 = some R3 ∧ Holds E s ((kWr.sh s).Osl (.slice A_y3_7 y3_7.length c_y3_7) y3_7 :: L) w) (fun f w => a0.length - (intOf (f 14)).toNat) ?_ ?_
  · exact ⟨0, a0, [], none, 0, rfl, rfl, rfl, hq3, H⟩
  · clear H
    intro f w hI
    obtain ⟨k3, r3, y3_7, A_y3_7, c_y3_7, hd3, hf14, hf7, hq3', H⟩ := hI
    clear hq3; have hq3 := hq3'; clear hq3'
    simp only [ovm, mixM]
    simp only [hf14, hf7]; clear hf14 hf7
    refine wp_seq ?_
    refine wp_region_lit ?_
    apply seq_op (V := .bool (decide ((k3 : Int) < (a0.length : Int)))) rfl
    · intro Φ hΦ; refine O_bin rfl rfl rfl eqg_int r_lss ?_; exact hΦ
    (try simp only [Act.put, List.setIfInBounds_toArray, List.set_cons_succ, List.set_cons_zero])
    refine list_end ?_
    refine then_norm ?_
    refine wp_seq ?_
    refine wp_cond_split rfl (fun hc => ?_) (fun hc => ?_)
    · have hc1 := hc
      clear hc
      obtain ⟨x3, r3', rfl, hd3', hd3'', hl3⟩ := rng_t hd3 hc1
      rw [assayerref04_Writers_l3] at hq3
      refine wp_skip ?_
      refine then_norm ?_
      refine wp_seq ?_
      refine wp_block ?_
      refine wp_seq ?_
      obtain ⟨be1, oe1, A4e1, c4e1, rfl, hCe1, h0e1, h1e1, h2e1, h3e1, h4e1⟩ := kT_el h_p0 hd3'
      refine wp_region_lit ?_
      apply seq_op (V := .int .i64 (k3 : Int)) rfl
      · intro Φ hΦ; refine O_mv rfl rfl ?_; exact hΦ
      (try simp only [Act.put, List.setIfInBounds_toArray, List.set_cons_succ, List.set_cons_zero])
      apply seq_op (V := .pointer (some ⟨be1, oe1 + k3 * 5, none⟩)) rfl
      · intro Φ hΦ; refine O_ix rfl Try.underlying22 (Try.sizeOf30 _) rfl rfl rfl hl3 ?_; exact hΦ
      (try simp only [Act.put, List.setIfInBounds_toArray, List.set_cons_succ, List.set_cons_zero])
      apply seq_op (V := .agg #[.int .i64 x3.proc, .int .i64 x3.state, .int .i64 x3.from_, .int .i64 x3.to, .slice A4e1 x3.ops.length c4e1]) rfl
      · intro Φ hΦ; refine G_sN _ _ rfl (Try.isAgg30 _) rfl H hCe1 (Try.sizeOf30 _) ?_; exact hΦ
      (try simp only [Act.put, List.setIfInBounds_toArray, List.set_cons_succ, List.set_cons_zero])
      refine OpG.list rfl ?_; refine G_alloc 30 rfl (Try.zeroValue30 _) H ?_; clear H; intro b9 w1 H; (try simp only [Value.cells] at H)
      (try simp only [Act.put, List.setIfInBounds_toArray, List.set_cons_succ, List.set_cons_zero])
      apply seq_op (V := .int .i64 (k3 : Int)) rfl
      · intro Φ hΦ; refine O_as rfl rfl ?_; exact hΦ
      (try simp only [Act.put, List.setIfInBounds_toArray, List.set_cons_succ, List.set_cons_zero])
      refine OpG.list rfl ?_; refine G_setNi 0 (c := [.int .i64 x3.proc, .int .i64 x3.state, .int .i64 x3.from_, .int .i64 x3.to, .slice A4e1 x3.ops.length c4e1]) _ _ _ rfl (Try.sizeOf30 _) rfl rfl (by simp [Value.oneCell']) H rfl rfl ?_; clear H; intro w1 H; simp only [List.set_cons_succ, List.set_cons_zero] at H
      (try simp only [Act.put, List.setIfInBounds_toArray, List.set_cons_succ, List.set_cons_zero])
      refine list_end ?_
      refine then_norm ?_
      refine wp_seq ?_
      refine wp_region_lit ?_
      apply seq_op (V := .pointer (some ⟨b9, 4, none⟩)) rfl
      · intro Φ hΦ; refine O_fld rfl Try.underlying30 rfl (Try.sizeOf28 _) rfl ?_; exact hΦ
      (try simp only [Act.put, List.setIfInBounds_toArray, List.set_cons_succ, List.set_cons_zero])
      apply seq_op (V := .slice A4e1 x3.ops.length c4e1) rfl
      · intro Φ hΦ; refine L_1 0 _ _ rfl (Try.isAgg28 _) rfl H rfl rfl ?_; exact hΦ
      (try simp only [Act.put, List.setIfInBounds_toArray, List.set_cons_succ, List.set_cons_zero])
      apply seq_op (V := .int .i64 (x3.ops.length : Int)) rfl
      · intro Φ hΦ; refine O_len rfl Try.underlying28 rfl ?_; exact hΦ
      (try simp only [Act.put, List.setIfInBounds_toArray, List.set_cons_succ, List.set_cons_zero])
      apply seq_op (V := .int .i64 0) rfl
      · intro Φ hΦ; refine O_mv rfl rfl ?_; exact hΦ
      (try simp only [Act.put, List.setIfInBounds_toArray, List.set_cons_succ, List.set_cons_zero])
      refine list_end ?_
      refine then_norm ?_
      refine wp_block ?_
      obtain ⟨R6, hq6, hq3⟩ := bs hq3
      have hn6 := Nat.le_trans (len_le (d := kOp) h4e1 (by decide)) (by decide : (140737488355328 : Nat) ≤ 9223372036854775807)
      refine wp_loopF [none, none, none, none, none, none, none, some 7, none, none, some 10, some 11, none, none, none, none, none, none, none, none, none, none, some 22, some 23, some 24, some 25, some 26, some 27, some 28, some 29, some 30, some 31, some 32, some 33, some 34, some 35, some 36, some 37, some 38, some 39, some 40, some 41, some 42, some 43, some 44, some 45, some 46, some 47, none, none] rfl (by simp) (fun f w => ∃ (k6 : Nat) (r6 : List Op') (y6_7 : List Wr) (A_y6_7 : Option Addr) (c_y6_7 : Nat), x3.ops.drop k6 = r6 ∧ f 22 = .int .i64 (k6 : Int) ∧ f 7 = .slice A_y6_7 y6_7.length c_y6_7 ∧ assayerref04_Writers_l6 a1 a2 k3 k6 r6 y6_7 = some R6 ∧ Holds E s (pt b9 (.cells #[.int .i64 x3.proc, .int .i64 x3.state, .int .i64 x3.from_, .int .i64 x3.to, .slice A4e1 x3.ops.length c4e1] 30 (0, 0)) :: (kWr.sh s).Osl (.slice A_y6_7 y6_7.length c_y6_7) y6_7 :: L) w) (fun f w => x3.ops.length - (intOf (f 22)).toNat) ?_ ?_
      · exact ⟨0, x3.ops, y3_7, A_y3_7, c_y3_7, rfl, rfl, rfl, hq6, H⟩
      · clear H
        intro f w hI
        obtain ⟨k6, r6, y6_7, A_y6_7, c_y6_7, hd6, hf22, hf7, hq6', H⟩ := hI
        clear hq6; have hq6 := hq6'; clear hq6'
        simp only [ovm, mixM]
        simp only [hf22, hf7]; clear hf22 hf7
        refine wp_seq ?_
        refine wp_region_lit ?_
        apply seq_op (V := .bool (decide ((k6 : Int) < (x3.ops.length : Int)))) rfl
        · intro Φ hΦ; refine O_bin rfl rfl rfl eqg_int r_lss ?_; exact hΦ
        (try simp only [Act.put, List.setIfInBounds_toArray, List.set_cons_succ, List.set_cons_zero])
        refine list_end ?_
        refine then_norm ?_
        refine wp_seq ?_
        refine wp_cond_split rfl (fun hc => ?_) (fun hc => ?_)
        · have hc2 := hc
          clear hc
          obtain ⟨x6, r6', rfl, hd6', hd6'', hl6⟩ := rng_t hd6 hc2
          rw [assayerref04_Writers_l6] at hq6
          refine wp_skip ?_
          refine then_norm ?_
          refine wp_seq ?_
          refine wp_block ?_
          refine wp_seq ?_
          obtain ⟨be2, oe2, A3e2, c3e2, rfl, hCe2, h0e2, h1e2, h2e2, h3e2⟩ := kOp_el h4e1 hd6'
          refine wp_region_lit ?_
          apply seq_op (V := .int .i64 (k6 : Int)) rfl
          · intro Φ hΦ; refine O_mv rfl rfl ?_; exact hΦ
          (try simp only [Act.put, List.setIfInBounds_toArray, List.set_cons_succ, List.set_cons_zero])
          apply seq_op (V := .pointer (some ⟨be2, oe2 + k6 * 6, none⟩)) rfl
          · intro Φ hΦ; refine O_ix rfl Try.underlying28 (Try.sizeOf35 _) rfl rfl rfl hl6 ?_; exact hΦ
          (try simp only [Act.put, List.setIfInBounds_toArray, List.set_cons_succ, List.set_cons_zero])
          apply seq_op (V := .agg #[.int .i64 x6.kind, .string x6.key, .int .i64 x6.value, .slice A3e2 x6.list.length c3e2, .bool x6.has, .bool x6.isNil]) rfl
          · intro Φ hΦ; refine G_sN _ _ rfl (Try.isAgg35 _) rfl H hCe2 (Try.sizeOf35 _) ?_; exact hΦ
          (try simp only [Act.put, List.setIfInBounds_toArray, List.set_cons_succ, List.set_cons_zero])
          refine OpG.list rfl ?_; refine G_alloc 35 rfl (Try.zeroValue35 _) H ?_; clear H; intro b11 w1 H; (try simp only [Value.cells] at H)
          (try simp only [Act.put, List.setIfInBounds_toArray, List.set_cons_succ, List.set_cons_zero])
          apply seq_op (V := .int .i64 (k6 : Int)) rfl
          · intro Φ hΦ; refine O_as rfl rfl ?_; exact hΦ
          (try simp only [Act.put, List.setIfInBounds_toArray, List.set_cons_succ, List.set_cons_zero])
          refine OpG.list rfl ?_; refine G_setNi 0 (c := [.int .i64 x6.kind, .string x6.key, .int .i64 x6.value, .slice A3e2 x6.list.length c3e2, .bool x6.has, .bool x6.isNil]) _ _ _ rfl (Try.sizeOf35 _) rfl rfl (by simp [Value.oneCell']) H rfl rfl ?_; clear H; intro w1 H; simp only [List.set_cons_succ, List.set_cons_zero] at H
          (try simp only [Act.put, List.setIfInBounds_toArray, List.set_cons_succ, List.set_cons_zero])
          refine list_end ?_
          refine then_norm ?_
          refine wp_seq ?_
          refine wp_region_lit ?_
          apply seq_op (V := .agg #[.int .i64 x6.kind, .string x6.key, .int .i64 x6.value, .slice A3e2 x6.list.length c3e2, .bool x6.has, .bool x6.isNil]) rfl
          · intro Φ hΦ; refine G_pNi 0 _ _ rfl (Try.isAgg35 _) rfl H rfl (Try.sizeOf35 _) ?_; exact hΦ
          (try simp only [Act.put, List.setIfInBounds_toArray, List.set_cons_succ, List.set_cons_zero])
          refine seq_call rfl (fun Φ hΦ => by refine O_call1 rfl Try.func62 rfl rfl rfl hΦ) (assayerref04_write_w (a0 := x6) (h_p0_list := h3e2) (H := H)) ?_
          clear H
          rintro e w1 ⟨rfl, H⟩; refine ⟨_, rfl, ?_⟩
          (try simp only [Act.put, List.setIfInBounds_toArray, List.set_cons_succ, List.set_cons_zero])
          apply seq_op (V := .bool (assayerref04_write_f x6)) rfl
          · intro Φ hΦ; refine O_mv rfl rfl ?_; exact hΦ
          (try simp only [Act.put, List.setIfInBounds_toArray, List.set_cons_succ, List.set_cons_zero])
          refine seq_opg (c := (assayerref04_write_f x6)) (V := .pointer (some ⟨b11, 1, none⟩)) (by first | exact wanted_t rfl rfl rfl | exact wanted_vt rfl rfl rfl) ?_ ?_
          · intro hc Φ hΦ; refine O_fld rfl Try.underlying35 rfl (Try.sizeOf9 _) rfl ?_; exact hΦ
          (try simp only [Act.put, List.setIfInBounds_toArray, List.set_cons_succ, List.set_cons_zero])
          refine seq_opg (c := (assayerref04_write_f x6)) (V := .string x6.key) (by first | exact wanted_t rfl rfl rfl | exact wanted_vt rfl rfl rfl) ?_ ?_
          · intro hc Φ hΦ; (repeat (first | rw [vg_of hc] | rw [vg_of (and_l hc)] | rw [vg_of (and_l (and_l hc))] | rw [vg_of (and_l (and_l (and_l hc)))] | rw [vg_and hc])); refine L_1 0 _ _ rfl (Try.isAgg9 _) rfl H rfl rfl ?_; exact hΦ
          (try simp only [Act.put, List.setIfInBounds_toArray, List.set_cons_succ, List.set_cons_zero])
          refine seq_opg (c := (assayerref04_write_f x6)) (V := .string a1) (by first | exact wanted_t rfl rfl rfl | exact wanted_vt rfl rfl rfl) ?_ ?_
          · intro hc Φ hΦ; refine O_mv rfl rfl ?_; exact hΦ
          (try simp only [Act.put, List.setIfInBounds_toArray, List.set_cons_succ, List.set_cons_zero])
          refine seq_opg (c := (assayerref04_write_f x6)) (V := .bool (x6.key.toList == a1.toList)) (by first | exact wanted_t rfl rfl rfl | exact wanted_vt rfl rfl rfl) ?_ ?_
          · intro hc Φ hΦ; (repeat (first | rw [vg_of hc] | rw [vg_of (and_l hc)] | rw [vg_of (and_l (and_l hc))] | rw [vg_of (and_l (and_l (and_l hc)))] | rw [vg_and hc])); refine O_bin rfl rfl rfl eqg_str r_seq ?_; exact hΦ
          (try simp only [Act.put, List.setIfInBounds_toArray, List.set_cons_succ, List.set_cons_zero])
          apply seq_op (V := .bool ((assayerref04_write_f x6) && (x6.key.toList == a1.toList))) rfl
          · intro Φ hΦ; refine G_and _ _ _ rfl rfl rfl rfl ?_; exact hΦ
          (try simp only [Act.put, List.setIfInBounds_toArray, List.set_cons_succ, List.set_cons_zero])
          apply seq_op (V := .bool ((assayerref04_write_f x6) && (x6.key.toList == a1.toList))) rfl
          · intro Φ hΦ; refine O_mv rfl rfl ?_; exact hΦ
          (try simp only [Act.put, List.setIfInBounds_toArray, List.set_cons_succ, List.set_cons_zero])
          refine seq_opg (c := ((assayerref04_write_f x6) && (x6.key.toList == a1.toList))) (V := .pointer (some ⟨b11, 2, none⟩)) (by first | exact wanted_t rfl rfl rfl | exact wanted_vt rfl rfl rfl) ?_ ?_
          · intro hc Φ hΦ; refine O_fld rfl Try.underlying35 rfl (Try.sizeOf3 _) rfl ?_; exact hΦ
          (try simp only [Act.put, List.setIfInBounds_toArray, List.set_cons_succ, List.set_cons_zero])
          refine seq_opg (c := ((assayerref04_write_f x6) && (x6.key.toList == a1.toList))) (V := .int .i64 x6.value) (by first | exact wanted_t rfl rfl rfl | exact wanted_vt rfl rfl rfl) ?_ ?_
          · intro hc Φ hΦ; (repeat (first | rw [vg_of hc] | rw [vg_of (and_l hc)] | rw [vg_of (and_l (and_l hc))] | rw [vg_of (and_l (and_l (and_l hc)))] | rw [vg_and hc])); refine L_1 0 _ _ rfl (Try.isAgg3 _) rfl H rfl rfl ?_; exact hΦ
          (try simp only [Act.put, List.setIfInBounds_toArray, List.set_cons_succ, List.set_cons_zero])
          refine seq_opg (c := ((assayerref04_write_f x6) && (x6.key.toList == a1.toList))) (V := .int .i64 a2) (by first | exact wanted_t rfl rfl rfl | exact wanted_vt rfl rfl rfl) ?_ ?_
          · intro hc Φ hΦ; refine O_mv rfl rfl ?_; exact hΦ
          (try simp only [Act.put, List.setIfInBounds_toArray, List.set_cons_succ, List.set_cons_zero])
          refine seq_opg (c := ((assayerref04_write_f x6) && (x6.key.toList == a1.toList))) (V := .bool (x6.value == a2)) (by first | exact wanted_t rfl rfl rfl | exact wanted_vt rfl rfl rfl) ?_ ?_
          · intro hc Φ hΦ; (repeat (first | rw [vg_of hc] | rw [vg_of (and_l hc)] | rw [vg_of (and_l (and_l hc))] | rw [vg_of (and_l (and_l (and_l hc)))] | rw [vg_and hc])); refine O_bin rfl rfl rfl eqg_int r_eql ?_; exact hΦ
          (try simp only [Act.put, List.setIfInBounds_toArray, List.set_cons_succ, List.set_cons_zero])
          apply seq_op (V := .bool (((assayerref04_write_f x6) && (x6.key.toList == a1.toList)) && (x6.value == a2))) rfl
          · intro Φ hΦ; refine G_and _ _ _ rfl rfl rfl rfl ?_; exact hΦ
          (try simp only [Act.put, List.setIfInBounds_toArray, List.set_cons_succ, List.set_cons_zero])
          refine list_end ?_
          refine then_norm ?_
          refine wp_cond_split rfl (fun hc => ?_) (fun hc => ?_)
          · have hc3 := hc
            clear hc
            replace hq6 := ifT hc3 hq6
            obtain ⟨u1, gx1, hq6⟩ := bs hq6
            obtain ⟨hroomgx1, egx1⟩ := app_some gx1
            refine wp_region_lit ?_
            apply seq_op (V := .slice A_y6_7 y6_7.length c_y6_7) rfl
            · intro Φ hΦ; refine O_mv rfl rfl ?_; exact hΦ
            (try simp only [Act.put, List.setIfInBounds_toArray, List.set_cons_succ, List.set_cons_zero])
            apply seq_op (V := .int .i64 (k3 : Int)) rfl
            · intro Φ hΦ; refine O_mv rfl rfl ?_; exact hΦ
            (try simp only [Act.put, List.setIfInBounds_toArray, List.set_cons_succ, List.set_cons_zero])
            apply seq_op (V := .int .i64 (k6 : Int)) rfl
            · intro Φ hΦ; refine O_mv rfl rfl ?_; exact hΦ
            (try simp only [Act.put, List.setIfInBounds_toArray, List.set_cons_succ, List.set_cons_zero])
            apply seq_op (V := .agg #[.int .i64 (k3 : Int), .int .i64 (k6 : Int)]) rfl
            · intro Φ hΦ; refine O_bld (cs := [.int .i64 (k3 : Int), .int .i64 (k6 : Int)]) rfl (by kernel_rfl) ?_; exact hΦ
            (try simp only [Act.put, List.setIfInBounds_toArray, List.set_cons_succ, List.set_cons_zero])
            refine OpG.list rfl ?_; refine SL_1 rfl (v := .agg #[.int .i64 (k3 : Int), .int .i64 (k6 : Int)]) rfl Try.underlying51 Try.sizeOf41 Try.zeroValue41 rfl rfl (by decide) (by decide) H ?_; clear H; intro b45 w1 H; (try simp only [Value.cells] at H)
            (try simp only [Act.put, List.setIfInBounds_toArray, List.set_cons_succ, List.set_cons_zero])
            refine OpG.list rfl ?_; refine AP_1 (p := (⟨(k3 : Int), (k6 : Int)⟩ : Wr)) 2 kWr_at _ _ rfl (kWr_mk' (s := s) (x := (⟨(k3 : Int), (k6 : Int)⟩ : Wr)) (nat_i (Nat.le_of_lt hl3) hn3) (nat_i (Nat.le_of_lt hl6) hn6)) H rfl rfl rfl hroomgx1 ?_; clear H; intro v1 w1 H; (try simp only [List.set_cons_succ, List.set_cons_zero] at H)
            rw [← egx1] at H
            obtain ⟨Av1, cv1, rfl, -⟩ := (H.front 2 rfl).len
            (try simp only [Act.put, List.setIfInBounds_toArray, List.set_cons_succ, List.set_cons_zero])
            apply seq_op (V := .slice Av1 u1.length cv1) rfl
            · intro Φ hΦ; refine O_as rfl rfl ?_; exact hΦ
            (try simp only [Act.put, List.setIfInBounds_toArray, List.set_cons_succ, List.set_cons_zero])
            refine list_end ?_
            refine block_norm ?_
            refine then_norm ?_
            refine wp_region_lit ?_
            apply seq_op (V := .int .i64 (IntKind.i64.wrap ((k6 : Int) + 1))) rfl
            · intro Φ hΦ; refine O_bin rfl rfl rfl eqg_int r_add ?_; exact hΦ
            (try simp only [Act.put, List.setIfInBounds_toArray, List.set_cons_succ, List.set_cons_zero])
            apply seq_op (V := .int .i64 (IntKind.i64.wrap ((k6 : Int) + 1))) rfl
            · intro Φ hΦ; refine O_mv rfl rfl ?_; exact hΦ
            (try simp only [Act.put, List.setIfInBounds_toArray, List.set_cons_succ, List.set_cons_zero])
            refine list_end ?_
            refine then_norm ?_
            replace H := H.drop
            refine ⟨⟨⟨rfl, rfl, rfl, rfl, rfl, rfl, rfl, rfl, rfl, rfl, rfl, rfl, rfl, rfl, rfl, rfl, rfl, rfl, rfl, rfl, rfl, rfl⟩, rfl⟩, ⟨k6 + 1, _, u1, Av1, cv1, hd6'', wrap_succ hl6 hn6, rfl, hq6, H⟩, ?_⟩
            exact meas_succ hl6 hn6
          · have hc3 := hc
            clear hc
            replace hq6 := ifF hc3 hq6
            refine wp_skip ?_
            refine block_norm ?_
            refine then_norm ?_
            refine wp_region_lit ?_
            apply seq_op (V := .int .i64 (IntKind.i64.wrap ((k6 : Int) + 1))) rfl
            · intro Φ hΦ; refine O_bin rfl rfl rfl eqg_int r_add ?_; exact hΦ
            (try simp only [Act.put, List.setIfInBounds_toArray, List.set_cons_succ, List.set_cons_zero])
            apply seq_op (V := .int .i64 (IntKind.i64.wrap ((k6 : Int) + 1))) rfl
            · intro Φ hΦ; refine O_mv rfl rfl ?_; exact hΦ
            (try simp only [Act.put, List.setIfInBounds_toArray, List.set_cons_succ, List.set_cons_zero])
            refine list_end ?_
            refine then_norm ?_
            replace H := H.drop
            refine ⟨⟨⟨rfl, rfl, rfl, rfl, rfl, rfl, rfl, rfl, rfl, rfl, rfl, rfl, rfl, rfl, rfl, rfl, rfl, rfl, rfl, rfl, rfl, rfl⟩, rfl⟩, ⟨k6 + 1, _, y6_7, A_y6_7, c_y6_7, hd6'', wrap_succ hl6 hn6, rfl, hq6, H⟩, ?_⟩
            exact meas_succ hl6 hn6
        · have hc2 := hc
          clear hc
          obtain rfl := rng_f hd6 hc2
          rw [assayerref04_Writers_l6] at hq6
          refine wp_exit ?_
          refine then_exit ?_
          refine then_exit ?_
          have hq6 := Option.some.inj hq6
          subst hq6
          (try dsimp only at hq3)
          refine block_exit ?_
          refine block_norm ?_
          refine then_norm ?_
          refine wp_region_lit ?_
          apply seq_op (V := .int .i64 (IntKind.i64.wrap ((k3 : Int) + 1))) rfl
          · intro Φ hΦ; refine O_bin rfl rfl rfl eqg_int r_add ?_; exact hΦ
          (try simp only [Act.put, List.setIfInBounds_toArray, List.set_cons_succ, List.set_cons_zero])
          apply seq_op (V := .int .i64 (IntKind.i64.wrap ((k3 : Int) + 1))) rfl
          · intro Φ hΦ; refine O_mv rfl rfl ?_; exact hΦ
          (try simp only [Act.put, List.setIfInBounds_toArray, List.set_cons_succ, List.set_cons_zero])
          refine list_end ?_
          refine then_norm ?_
          replace H := H.drop
          refine ⟨⟨⟨rfl, rfl, rfl, rfl, rfl, rfl, rfl, rfl, rfl, rfl, rfl⟩, rfl⟩, ⟨k3 + 1, _, y6_7, A_y6_7, c_y6_7, hd3'', wrap_succ hl3 hn3, rfl, hq3, H⟩, ?_⟩
          exact meas_succ hl3 hn3
    · have hc1 := hc
      clear hc
      obtain rfl := rng_f hd3 hc1
      rw [assayerref04_Writers_l3] at hq3
      refine wp_exit ?_
      refine then_exit ?_
      refine then_exit ?_
      have hq3 := Option.some.inj hq3
      subst hq3
      (try dsimp only at hm)
      refine block_exit ?_
      refine then_norm ?_
      refine wp_seq ?_
      refine wp_region_lit ?_
      apply seq_op (V := .slice A_y3_7 y3_7.length c_y3_7) rfl
      · intro Φ hΦ; refine O_mv rfl rfl ?_; exact hΦ
      (try simp only [Act.put, List.setIfInBounds_toArray, List.set_cons_succ, List.set_cons_zero])
      apply seq_op (V := .slice A_y3_7 y3_7.length c_y3_7) rfl
      · intro Φ hΦ; refine O_as rfl rfl ?_; exact hΦ
      (try simp only [Act.put, List.setIfInBounds_toArray, List.set_cons_succ, List.set_cons_zero])
      refine list_end ?_
      refine then_norm ?_
      refine wp_ret ?_
      have hm := Option.some.inj hm
      subst hm
      exact ret1 rfl (rv_tmp rfl) rfl ⟨A_y3_7, c_y3_7, y3_7.length, rfl, H⟩
def assayerref04_Unique_l5 (a0 : List Txn) : Nat → List Op' → Option ((Bool ⊕ Unit))
  | k5, []  => some (.inr ())
  | k5, x5 :: r5 => if (assayerref04_write_f x5) = true then ((assayerref04_Writers_f a0 x5.key x5.value).bind fun u1 => if (decide ((u1.length : Int) > 1)) = true then (some (.inl false)) else (assayerref04_Unique_l5 a0 (k5 + 1) r5)) else (assayerref04_Unique_l5 a0 (k5 + 1) r5)

def assayerref04_Unique_l2 (a0 : List Txn) : Nat → List Txn → Option ((Bool ⊕ Unit))
  | k2, []  => some (.inr ())
  | k2, x2 :: r2 => (assayerref04_Unique_l5 a0 0 x2.ops).bind fun | .inl z5_r => (some (.inl z5_r)) | .inr () => (assayerref04_Unique_l2 a0 (k2 + 1) r2)

def assayerref04_Unique_f (a0 : List Txn) : Option Bool := (assayerref04_Unique_l2 a0 0 a0).bind fun | .inl z2_r => (some z2_r) | .inr () => (some true)

set_option maxHeartbeats 4000000 in
theorem assayerref04_Unique_w {E : World} {s : SH} {L : List HP} {w : World} {a0 : List Txn} {A_p0 : Option Addr} {c_p0 : Nat} (h_p0 : kT.Sl s (.slice A_p0 a0.length c_p0) a0) {R : Bool} (hm : assayerref04_Unique_f a0 = some R) (H : Holds E s (L) w) :
    Calls Try.prog 18 #[.slice A_p0 a0.length c_p0] w fun e w' => e = .returned (.bool R) ∧ Holds E s (L) w' := by
  unfold assayerref04_Unique_f at hm
  go_enter Try.func18, Try.ntmps18
  refine wp_seq ?_
  refine wp_region_lit ?_
  apply seq_op (V := .bool false) rfl
  · intro Φ hΦ; refine O_as rfl rfl ?_; exact hΦ
  (try simp only [Act.put, List.setIfInBounds_toArray, List.set_cons_succ, List.set_cons_zero])
  refine list_end ?_
  refine then_norm ?_
  refine wp_seq ?_
  refine wp_seq ?_
  refine wp_region_lit ?_
  apply seq_op (V := .slice A_p0 a0.length c_p0) rfl
  · intro Φ hΦ; refine O_mv rfl rfl ?_; exact hΦ
  (try simp only [Act.put, List.setIfInBounds_toArray, List.set_cons_succ, List.set_cons_zero])
  apply seq_op (V := .int .i64 (a0.length : Int)) rfl
  · intro Φ hΦ; refine O_len rfl Try.underlying22 rfl ?_; exact hΦ
  (try simp only [Act.put, List.setIfInBounds_toArray, List.set_cons_succ, List.set_cons_zero])
  apply seq_op (V := .int .i64 0) rfl
  · intro Φ hΦ; refine O_mv rfl rfl ?_; exact hΦ
  (try simp only [Act.put, List.setIfInBounds_toArray, List.set_cons_succ, List.set_cons_zero])
  refine list_end ?_
  refine then_norm ?_
  refine wp_block ?_
  obtain ⟨R2, hq2, hm⟩ := bs hm
  have hn2 := Nat.le_trans (len_le (d := kT) h_p0 (by decide)) (by decide : (140737488355328 : Nat) ≤ 9223372036854775807)
  refine wp_loopF [none, none, some 2, none, some 4, none, some 6, none, none, some 9, some 10, some 11, some 12, some 13, some 14, some 15, some 16, some 17, some 18, some 19, some 20, some 21, some 22, some 23, some 24, some 25, some 26, some 27, some 28, some 29, some 30, some 31, some 32, some 33] rfl (by simp) (fun f w => ∃ (k2 : Nat) (r2 : List Txn) (sL2 : SH), Sub s sL2 ∧ a0.drop k2 = r2 ∧ f 9 = .int .i64 (k2 : Int) ∧ assayerref04_Unique_l2 a0 k2 r2 = some R2 ∧ Holds E sL2 (L) w) (fun f w => a0.length - (intOf (f 9)).toNat) ?_ ?_
  · exact ⟨0, a0, s, Sub.refl _, rfl, rfl, hq2, H⟩
  · clear H
    intro f w hI
    obtain ⟨k2, r2, sL2, hs2, hd2, hf9, hq2', H⟩ := hI
    clear hq2; have hq2 := hq2'; clear hq2'
    simp only [ovm, mixM]
    simp only [hf9]; clear hf9
    replace h_p0 := h_p0.mono hs2
    have hS := hs2
    refine wp_seq ?_
    refine wp_region_lit ?_
    apply seq_op (V := .bool (decide ((k2 : Int) < (a0.length : Int)))) rfl
    · intro Φ hΦ; refine O_bin rfl rfl rfl eqg_int r_lss ?_; exact hΦ
    (try simp only [Act.put, List.setIfInBounds_toArray, List.set_cons_succ, List.set_cons_zero])
    refine list_end ?_
    refine then_norm ?_
    refine wp_seq ?_
    refine wp_cond_split rfl (fun hc => ?_) (fun hc => ?_)
    · have hc1 := hc
      clear hc
      obtain ⟨x2, r2', rfl, hd2', hd2'', hl2⟩ := rng_t hd2 hc1
      rw [assayerref04_Unique_l2] at hq2
      refine wp_skip ?_
      refine then_norm ?_
      refine wp_seq ?_
      refine wp_block ?_
      refine wp_seq ?_
      obtain ⟨be1, oe1, A4e1, c4e1, rfl, hCe1, h0e1, h1e1, h2e1, h3e1, h4e1⟩ := kT_el h_p0 hd2'
      refine wp_region_lit ?_
      apply seq_op (V := .pointer (some ⟨be1, oe1 + k2 * 5, none⟩)) rfl
      · intro Φ hΦ; refine O_ix rfl Try.underlying22 (Try.sizeOf30 _) rfl rfl rfl hl2 ?_; exact hΦ
      (try simp only [Act.put, List.setIfInBounds_toArray, List.set_cons_succ, List.set_cons_zero])
      apply seq_op (V := .agg #[.int .i64 x2.proc, .int .i64 x2.state, .int .i64 x2.from_, .int .i64 x2.to, .slice A4e1 x2.ops.length c4e1]) rfl
      · intro Φ hΦ; refine G_sN _ _ rfl (Try.isAgg30 _) rfl H hCe1 (Try.sizeOf30 _) ?_; exact hΦ
      (try simp only [Act.put, List.setIfInBounds_toArray, List.set_cons_succ, List.set_cons_zero])
      refine OpG.list rfl ?_; refine G_alloc 30 rfl (Try.zeroValue30 _) H ?_; clear H; intro b4 w1 H; (try simp only [Value.cells] at H)
      (try simp only [Act.put, List.setIfInBounds_toArray, List.set_cons_succ, List.set_cons_zero])
      refine OpG.list rfl ?_; refine G_setNi 0 (c := [.int .i64 x2.proc, .int .i64 x2.state, .int .i64 x2.from_, .int .i64 x2.to, .slice A4e1 x2.ops.length c4e1]) _ _ _ rfl (Try.sizeOf30 _) rfl rfl (by simp [Value.oneCell']) H rfl rfl ?_; clear H; intro w1 H; simp only [List.set_cons_succ, List.set_cons_zero] at H
      (try simp only [Act.put, List.setIfInBounds_toArray, List.set_cons_succ, List.set_cons_zero])
      refine list_end ?_
      refine then_norm ?_
      refine wp_seq ?_
      refine wp_region_lit ?_
      apply seq_op (V := .pointer (some ⟨b4, 4, none⟩)) rfl
      · intro Φ hΦ; refine O_fld rfl Try.underlying30 rfl (Try.sizeOf28 _) rfl ?_; exact hΦ
      (try simp only [Act.put, List.setIfInBounds_toArray, List.set_cons_succ, List.set_cons_zero])
      apply seq_op (V := .slice A4e1 x2.ops.length c4e1) rfl
      · intro Φ hΦ; refine L_1 0 _ _ rfl (Try.isAgg28 _) rfl H rfl rfl ?_; exact hΦ
      (try simp only [Act.put, List.setIfInBounds_toArray, List.set_cons_succ, List.set_cons_zero])
      apply seq_op (V := .int .i64 (x2.ops.length : Int)) rfl
      · intro Φ hΦ; refine O_len rfl Try.underlying28 rfl ?_; exact hΦ
      (try simp only [Act.put, List.setIfInBounds_toArray, List.set_cons_succ, List.set_cons_zero])
      apply seq_op (V := .int .i64 0) rfl
      · intro Φ hΦ; refine O_mv rfl rfl ?_; exact hΦ
      (try simp only [Act.put, List.setIfInBounds_toArray, List.set_cons_succ, List.set_cons_zero])
      refine list_end ?_
      refine then_norm ?_
      refine wp_block ?_
      obtain ⟨R5, hq5, hq2⟩ := bs hq2
      have hn5 := Nat.le_trans (len_le (d := kOp) h4e1 (by decide)) (by decide : (140737488355328 : Nat) ≤ 9223372036854775807)
      refine wp_loopF [none, none, some 2, none, none, none, some 6, none, none, none, none, none, none, none, none, none, some 16, some 17, some 18, some 19, some 20, some 21, some 22, some 23, some 24, some 25, some 26, some 27, some 28, some 29, some 30, some 31, some 32, none] rfl (by simp) (fun f w => ∃ (k5 : Nat) (r5 : List Op') (sL5 : SH), Sub sL2 sL5 ∧ x2.ops.drop k5 = r5 ∧ f 16 = .int .i64 (k5 : Int) ∧ assayerref04_Unique_l5 a0 k5 r5 = some R5 ∧ Holds E sL5 (pt b4 (.cells #[.int .i64 x2.proc, .int .i64 x2.state, .int .i64 x2.from_, .int .i64 x2.to, .slice A4e1 x2.ops.length c4e1] 30 (0, 0)) :: L) w) (fun f w => x2.ops.length - (intOf (f 16)).toNat) ?_ ?_
      · exact ⟨0, x2.ops, sL2, Sub.refl _, rfl, rfl, hq5, H⟩
      · clear H
        intro f w hI
        obtain ⟨k5, r5, sL5, hs5, hd5, hf16, hq5', H⟩ := hI
        clear hq5; have hq5 := hq5'; clear hq5'
        simp only [ovm, mixM]
        simp only [hf16]; clear hf16
        replace h_p0 := h_p0.mono hs5
        replace hCe1 := hCe1.mono hs5
        replace h4e1 := h4e1.mono hs5
        replace hS := hS.trans hs5
        replace hs2 := hs2.trans hs5
        refine wp_seq ?_
        refine wp_region_lit ?_
        apply seq_op (V := .bool (decide ((k5 : Int) < (x2.ops.length : Int)))) rfl
        · intro Φ hΦ; refine O_bin rfl rfl rfl eqg_int r_lss ?_; exact hΦ
        (try simp only [Act.put, List.setIfInBounds_toArray, List.set_cons_succ, List.set_cons_zero])
        refine list_end ?_
        refine then_norm ?_
        refine wp_seq ?_
        refine wp_cond_split rfl (fun hc => ?_) (fun hc => ?_)
        · have hc2 := hc
          clear hc
          obtain ⟨x5, r5', rfl, hd5', hd5'', hl5⟩ := rng_t hd5 hc2
          rw [assayerref04_Unique_l5] at hq5
          refine wp_skip ?_
          refine then_norm ?_
          refine wp_seq ?_
          refine wp_block ?_
          refine wp_seq ?_
          obtain ⟨be2, oe2, A3e2, c3e2, rfl, hCe2, h0e2, h1e2, h2e2, h3e2⟩ := kOp_el h4e1 hd5'
          refine wp_region_lit ?_
          apply seq_op (V := .pointer (some ⟨be2, oe2 + k5 * 6, none⟩)) rfl
          · intro Φ hΦ; refine O_ix rfl Try.underlying28 (Try.sizeOf35 _) rfl rfl rfl hl5 ?_; exact hΦ
          (try simp only [Act.put, List.setIfInBounds_toArray, List.set_cons_succ, List.set_cons_zero])
          apply seq_op (V := .agg #[.int .i64 x5.kind, .string x5.key, .int .i64 x5.value, .slice A3e2 x5.list.length c3e2, .bool x5.has, .bool x5.isNil]) rfl
          · intro Φ hΦ; refine G_sN _ _ rfl (Try.isAgg35 _) rfl H hCe2 (Try.sizeOf35 _) ?_; exact hΦ
          (try simp only [Act.put, List.setIfInBounds_toArray, List.set_cons_succ, List.set_cons_zero])
          refine OpG.list rfl ?_; refine G_alloc 35 rfl (Try.zeroValue35 _) H ?_; clear H; intro b6 w1 H; (try simp only [Value.cells] at H)
          (try simp only [Act.put, List.setIfInBounds_toArray, List.set_cons_succ, List.set_cons_zero])
          refine OpG.list rfl ?_; refine G_setNi 0 (c := [.int .i64 x5.kind, .string x5.key, .int .i64 x5.value, .slice A3e2 x5.list.length c3e2, .bool x5.has, .bool x5.isNil]) _ _ _ rfl (Try.sizeOf35 _) rfl rfl (by simp [Value.oneCell']) H rfl rfl ?_; clear H; intro w1 H; simp only [List.set_cons_succ, List.set_cons_zero] at H
          (try simp only [Act.put, List.setIfInBounds_toArray, List.set_cons_succ, List.set_cons_zero])
          refine list_end ?_
          refine then_norm ?_
          refine wp_seq ?_
          rcases Bool.eq_false_or_eq_true (assayerref04_write_f x5) with hg1 | hg1
          · replace hq5 := ifT hg1 hq5
            obtain ⟨u1, gx1, hq5⟩ := bs hq5
            refine wp_region_lit ?_
            apply seq_op (V := .agg #[.int .i64 x5.kind, .string x5.key, .int .i64 x5.value, .slice A3e2 x5.list.length c3e2, .bool x5.has, .bool x5.isNil]) rfl
            · intro Φ hΦ; refine G_pNi 0 _ _ rfl (Try.isAgg35 _) rfl H rfl (Try.sizeOf35 _) ?_; exact hΦ
            (try simp only [Act.put, List.setIfInBounds_toArray, List.set_cons_succ, List.set_cons_zero])
            refine seq_call rfl (fun Φ hΦ => by refine O_call1 rfl Try.func62 rfl rfl rfl hΦ) (assayerref04_write_w (a0 := x5) (h_p0_list := h3e2) (H := H)) ?_
            clear H
            rintro e w1 ⟨rfl, H⟩; refine ⟨_, rfl, ?_⟩
            (try simp only [Act.put, List.setIfInBounds_toArray, List.set_cons_succ, List.set_cons_zero])
            apply seq_op (V := .bool (assayerref04_write_f x5)) rfl
            · intro Φ hΦ; refine O_mv rfl rfl ?_; exact hΦ
            (try simp only [Act.put, List.setIfInBounds_toArray, List.set_cons_succ, List.set_cons_zero])
            refine seq_opw (V := .slice (some ⟨be1, oe1, none⟩) a0.length c_p0) ((wanted_t rfl rfl rfl).trans hg1) ?_ ?_
            · intro Φ hΦ; refine O_mv rfl rfl ?_; exact hΦ
            (try simp only [Act.put, List.setIfInBounds_toArray, List.set_cons_succ, List.set_cons_zero])
            refine seq_opw (V := .pointer (some ⟨b6, 1, none⟩)) ((wanted_t rfl rfl rfl).trans hg1) ?_ ?_
            · intro Φ hΦ; refine O_fld rfl Try.underlying35 rfl (Try.sizeOf9 _) rfl ?_; exact hΦ
            (try simp only [Act.put, List.setIfInBounds_toArray, List.set_cons_succ, List.set_cons_zero])
            refine seq_opw (V := .string x5.key) ((wanted_t rfl rfl rfl).trans hg1) ?_ ?_
            · intro Φ hΦ; refine L_1 0 _ _ rfl (Try.isAgg9 _) rfl H rfl rfl ?_; exact hΦ
            (try simp only [Act.put, List.setIfInBounds_toArray, List.set_cons_succ, List.set_cons_zero])
            refine seq_opw (V := .pointer (some ⟨b6, 2, none⟩)) ((wanted_t rfl rfl rfl).trans hg1) ?_ ?_
            · intro Φ hΦ; refine O_fld rfl Try.underlying35 rfl (Try.sizeOf3 _) rfl ?_; exact hΦ
            (try simp only [Act.put, List.setIfInBounds_toArray, List.set_cons_succ, List.set_cons_zero])
            refine seq_opw (V := .int .i64 x5.value) ((wanted_t rfl rfl rfl).trans hg1) ?_ ?_
            · intro Φ hΦ; refine L_1 0 _ _ rfl (Try.isAgg3 _) rfl H rfl rfl ?_; exact hΦ
            (try simp only [Act.put, List.setIfInBounds_toArray, List.set_cons_succ, List.set_cons_zero])
            refine seq_callw ((wanted_t rfl rfl rfl).trans hg1) (fun Φ hΦ => by refine O_call3 rfl Try.func30 rfl rfl rfl rfl rfl hΦ) (assayerref04_Writers_w (a0 := a0) (h_p0 := h_p0) (a1 := x5.key) (a2 := x5.value) (hm := gx1) (H := H)) ?_
            clear H
            rintro e w1 ⟨Ar30, cr30, nr30, rfl, H⟩; refine ⟨_, rfl, ?_⟩
            obtain rfl := osl_len 0 H rfl
            skip
            obtain ⟨s1, hs', H, hf1⟩ := Kin.Osl.fr H; replace hf1 := hf1.unsh hs'
            replace h_p0 := h_p0.mono hs'
            replace hCe1 := hCe1.mono hs'
            replace h4e1 := h4e1.mono hs'
            replace hCe2 := hCe2.mono hs'
            replace h3e2 := h3e2.mono hs'
            replace hS := hS.trans hs'
            replace hs2 := hs2.trans hs'
            replace hs5 := hs5.trans hs'
            (try simp only [Act.put, List.setIfInBounds_toArray, List.set_cons_succ, List.set_cons_zero])
            refine seq_opw (V := .int .i64 (u1.length : Int)) ((wanted_t rfl rfl rfl).trans hg1) ?_ ?_
            · intro Φ hΦ; refine O_len rfl Try.underlying51 rfl ?_; exact hΦ
            (try simp only [Act.put, List.setIfInBounds_toArray, List.set_cons_succ, List.set_cons_zero])
            refine seq_opw (V := .bool (decide ((u1.length : Int) > 1))) ((wanted_t rfl rfl rfl).trans hg1) ?_ ?_
            · intro Φ hΦ; refine O_bin rfl rfl rfl eqg_int r_gtr ?_; exact hΦ
            (try simp only [Act.put, List.setIfInBounds_toArray, List.set_cons_succ, List.set_cons_zero])
            apply seq_op (V := .bool (decide ((u1.length : Int) > 1))) rfl
            · intro Φ hΦ; refine O_pickT rfl rfl hg1 rfl ?_; exact hΦ
            (try simp only [Act.put, List.setIfInBounds_toArray, List.set_cons_succ, List.set_cons_zero])
            refine list_end ?_
            refine then_norm ?_
            refine wp_cond_split rfl (fun hc => ?_) (fun hc => ?_)
            · have hc3 := hc
              clear hc
              replace hq5 := ifT hc3 hq5
              refine wp_seq ?_
              refine wp_region_lit ?_
              apply seq_op (V := .bool false) rfl
              · intro Φ hΦ; refine O_as rfl rfl ?_; exact hΦ
              (try simp only [Act.put, List.setIfInBounds_toArray, List.set_cons_succ, List.set_cons_zero])
              refine list_end ?_
              refine then_norm ?_
              refine wp_ret ?_
              refine block_ret ?_
              refine then_ret ?_
              refine then_ret ?_
              refine block_ret ?_
              refine block_ret ?_
              refine then_ret ?_
              refine then_ret ?_
              refine block_ret ?_
              refine then_ret ?_
              have hq5 := Option.some.inj hq5
              subst hq5
              (try dsimp only at hq2)
              have hq2 := Option.some.inj hq2
              subst hq2
              (try dsimp only at hm)
              have hm := Option.some.inj hm
              subst hm
              replace H := H.dropAt 1 rfl; simp only [List.eraseIdx_cons_succ, List.eraseIdx_cons_zero] at H
              replace H := H.dropAt 0 rfl; simp only [List.eraseIdx_cons_succ, List.eraseIdx_cons_zero] at H
              replace H := H.forget hS
              exact ret1 rfl (rv_tmp rfl) rfl ⟨rfl, H⟩
            · have hc3 := hc
              clear hc
              replace hq5 := ifF hc3 hq5
              refine wp_skip ?_
              refine block_norm ?_
              refine then_norm ?_
              refine wp_region_lit ?_
              apply seq_op (V := .int .i64 (IntKind.i64.wrap ((k5 : Int) + 1))) rfl
              · intro Φ hΦ; refine O_bin rfl rfl rfl eqg_int r_add ?_; exact hΦ
              (try simp only [Act.put, List.setIfInBounds_toArray, List.set_cons_succ, List.set_cons_zero])
              apply seq_op (V := .int .i64 (IntKind.i64.wrap ((k5 : Int) + 1))) rfl
              · intro Φ hΦ; refine O_mv rfl rfl ?_; exact hΦ
              (try simp only [Act.put, List.setIfInBounds_toArray, List.set_cons_succ, List.set_cons_zero])
              refine list_end ?_
              refine then_norm ?_
              replace H := H.drop
              refine ⟨⟨⟨rfl, rfl, rfl, rfl, rfl, rfl, rfl, rfl, rfl, rfl, rfl, rfl, rfl, rfl, rfl, rfl⟩, rfl⟩, ⟨k5 + 1, _, s1, hs5, hd5'', wrap_succ hl5 hn5, hq5, H⟩, ?_⟩
              exact meas_succ hl5 hn5
          · replace hq5 := ifF hg1 hq5
            refine wp_region_lit ?_
            apply seq_op (V := .agg #[.int .i64 x5.kind, .string x5.key, .int .i64 x5.value, .slice A3e2 x5.list.length c3e2, .bool x5.has, .bool x5.isNil]) rfl
            · intro Φ hΦ; refine G_pNi 0 _ _ rfl (Try.isAgg35 _) rfl H rfl (Try.sizeOf35 _) ?_; exact hΦ
            (try simp only [Act.put, List.setIfInBounds_toArray, List.set_cons_succ, List.set_cons_zero])
            refine seq_call rfl (fun Φ hΦ => by refine O_call1 rfl Try.func62 rfl rfl rfl hΦ) (assayerref04_write_w (a0 := x5) (h_p0_list := h3e2) (H := H)) ?_
            clear H
            rintro e w1 ⟨rfl, H⟩; refine ⟨_, rfl, ?_⟩
            (try simp only [Act.put, List.setIfInBounds_toArray, List.set_cons_succ, List.set_cons_zero])
            apply seq_op (V := .bool (assayerref04_write_f x5)) rfl
            · intro Φ hΦ; refine O_mv rfl rfl ?_; exact hΦ
            (try simp only [Act.put, List.setIfInBounds_toArray, List.set_cons_succ, List.set_cons_zero])
            refine seq_skip ((wanted_t rfl rfl rfl).trans hg1) ?_
            (try simp only [Act.put, List.setIfInBounds_toArray, List.set_cons_succ, List.set_cons_zero])
            refine seq_skip ((wanted_t rfl rfl rfl).trans hg1) ?_
            (try simp only [Act.put, List.setIfInBounds_toArray, List.set_cons_succ, List.set_cons_zero])
            refine seq_skip ((wanted_t rfl rfl rfl).trans hg1) ?_
            (try simp only [Act.put, List.setIfInBounds_toArray, List.set_cons_succ, List.set_cons_zero])
            refine seq_skip ((wanted_t rfl rfl rfl).trans hg1) ?_
            (try simp only [Act.put, List.setIfInBounds_toArray, List.set_cons_succ, List.set_cons_zero])
            refine seq_skip ((wanted_t rfl rfl rfl).trans hg1) ?_
            (try simp only [Act.put, List.setIfInBounds_toArray, List.set_cons_succ, List.set_cons_zero])
            refine seq_skip ((wanted_t rfl rfl rfl).trans hg1) ?_
            (try simp only [Act.put, List.setIfInBounds_toArray, List.set_cons_succ, List.set_cons_zero])
            refine seq_skip ((wanted_t rfl rfl rfl).trans hg1) ?_
            (try simp only [Act.put, List.setIfInBounds_toArray, List.set_cons_succ, List.set_cons_zero])
            refine seq_skip ((wanted_t rfl rfl rfl).trans hg1) ?_
            (try simp only [Act.put, List.setIfInBounds_toArray, List.set_cons_succ, List.set_cons_zero])
            apply seq_op (V := .bool false) rfl
            · intro Φ hΦ; refine O_pickF rfl rfl hg1 rfl ?_; exact hΦ
            (try simp only [Act.put, List.setIfInBounds_toArray, List.set_cons_succ, List.set_cons_zero])
            refine list_end ?_
            refine then_norm ?_
            refine wp_cond_false rfl ?_
            refine wp_skip ?_
            refine block_norm ?_
            refine then_norm ?_
            refine wp_region_lit ?_
            apply seq_op (V := .int .i64 (IntKind.i64.wrap ((k5 : Int) + 1))) rfl
            · intro Φ hΦ; refine O_bin rfl rfl rfl eqg_int r_add ?_; exact hΦ
            (try simp only [Act.put, List.setIfInBounds_toArray, List.set_cons_succ, List.set_cons_zero])
            apply seq_op (V := .int .i64 (IntKind.i64.wrap ((k5 : Int) + 1))) rfl
            · intro Φ hΦ; refine O_mv rfl rfl ?_; exact hΦ
            (try simp only [Act.put, List.setIfInBounds_toArray, List.set_cons_succ, List.set_cons_zero])
            refine list_end ?_
            refine then_norm ?_
            replace H := H.drop
            refine ⟨⟨⟨rfl, rfl, rfl, rfl, rfl, rfl, rfl, rfl, rfl, rfl, rfl, rfl, rfl, rfl, rfl, rfl⟩, rfl⟩, ⟨k5 + 1, _, sL5, hs5, hd5'', wrap_succ hl5 hn5, hq5, H⟩, ?_⟩
            exact meas_succ hl5 hn5
        · have hc2 := hc
          clear hc
          obtain rfl := rng_f hd5 hc2
          rw [assayerref04_Unique_l5] at hq5
          refine wp_exit ?_
          refine then_exit ?_
          refine then_exit ?_
          have hq5 := Option.some.inj hq5
          subst hq5
          (try dsimp only at hq2)
          refine block_exit ?_
          refine block_norm ?_
          refine then_norm ?_
          refine wp_region_lit ?_
          apply seq_op (V := .int .i64 (IntKind.i64.wrap ((k2 : Int) + 1))) rfl
          · intro Φ hΦ; refine O_bin rfl rfl rfl eqg_int r_add ?_; exact hΦ
          (try simp only [Act.put, List.setIfInBounds_toArray, List.set_cons_succ, List.set_cons_zero])
          apply seq_op (V := .int .i64 (IntKind.i64.wrap ((k2 : Int) + 1))) rfl
          · intro Φ hΦ; refine O_mv rfl rfl ?_; exact hΦ
          (try simp only [Act.put, List.setIfInBounds_toArray, List.set_cons_succ, List.set_cons_zero])
          refine list_end ?_
          refine then_norm ?_
          replace H := H.drop
          refine ⟨⟨⟨rfl, rfl, rfl, rfl, rfl, rfl, rfl⟩, rfl⟩, ⟨k2 + 1, _, sL5, hs2, hd2'', wrap_succ hl2 hn2, hq2, H⟩, ?_⟩
          exact meas_succ hl2 hn2
    · have hc1 := hc
      clear hc
      obtain rfl := rng_f hd2 hc1
      rw [assayerref04_Unique_l2] at hq2
      refine wp_exit ?_
      refine then_exit ?_
      refine then_exit ?_
      have hq2 := Option.some.inj hq2
      subst hq2
      (try dsimp only at hm)
      refine block_exit ?_
      refine then_norm ?_
      refine wp_seq ?_
      refine wp_region_lit ?_
      apply seq_op (V := .bool true) rfl
      · intro Φ hΦ; refine O_as rfl rfl ?_; exact hΦ
      (try simp only [Act.put, List.setIfInBounds_toArray, List.set_cons_succ, List.set_cons_zero])
      refine list_end ?_
      refine then_norm ?_
      refine wp_ret ?_
      have hm := Option.some.inj hm
      subst hm
      replace H := H.forget hS
      exact ret1 rfl (rv_tmp rfl) rfl ⟨rfl, H⟩
def assayerlaw04_TableUnique_1_f (a0 : Op') : Bool := ((a0.kind == 1) || (a0.kind == 3))

set_option maxHeartbeats 4000000 in
theorem assayerlaw04_TableUnique_1_w {E : World} {s : SH} {L : List HP} {w : World} {a0 : Op'} {A_p0_list : Option Addr} {c_p0_list : Nat} (h_p0_list : kI.Sl s (.slice A_p0_list a0.list.length c_p0_list) a0.list) (H : Holds E s (L) w) :
    Calls Try.prog 20 #[.agg #[.int .i64 a0.kind, .string a0.key, .int .i64 a0.value, .slice A_p0_list a0.list.length c_p0_list, .bool a0.has, .bool a0.isNil]] w fun e w' => e = .returned (.bool (assayerlaw04_TableUnique_1_f a0)) ∧ Holds E s (L) w' := by
  obtain ⟨R, hm⟩ : ∃ R, assayerlaw04_TableUnique_1_f a0 = R := ⟨_, rfl⟩
  (try rw [hm])
  unfold assayerlaw04_TableUnique_1_f at hm
  go_enter Try.func20, Try.ntmps20
  refine wp_seq ?_
  refine wp_region_lit ?_
  refine OpG.list rfl ?_; refine B_x 35 _ rfl (v := .agg #[.int .i64 a0.kind, .string a0.key, .int .i64 a0.value, .slice A_p0_list a0.list.length c_p0_list, .bool a0.has, .bool a0.isNil]) rfl H ?_; clear H; intro b1 w1 H; (try simp only [Value.cells] at H)
  (try simp only [Act.put, List.setIfInBounds_toArray, List.set_cons_succ, List.set_cons_zero])
  apply seq_op (V := .bool false) rfl
  · intro Φ hΦ; refine O_as rfl rfl ?_; exact hΦ
  (try simp only [Act.put, List.setIfInBounds_toArray, List.set_cons_succ, List.set_cons_zero])
  refine list_end ?_
  refine then_norm ?_
  refine wp_seq ?_
  refine wp_region_lit ?_
  apply seq_op (V := .pointer (some ⟨b1, 0, none⟩)) rfl
  · intro Φ hΦ; refine O_fld rfl Try.underlying35 rfl (Try.sizeOf3 _) rfl ?_; exact hΦ
  (try simp only [Act.put, List.setIfInBounds_toArray, List.set_cons_succ, List.set_cons_zero])
  apply seq_op (V := .int .i64 a0.kind) rfl
  · intro Φ hΦ; refine L_1 0 _ _ rfl (Try.isAgg3 _) rfl H rfl rfl ?_; exact hΦ
  (try simp only [Act.put, List.setIfInBounds_toArray, List.set_cons_succ, List.set_cons_zero])
  apply seq_op (V := .bool (a0.kind == 1)) rfl
  · intro Φ hΦ; refine O_bin rfl rfl rfl eqg_int r_eql ?_; exact hΦ
  (try simp only [Act.put, List.setIfInBounds_toArray, List.set_cons_succ, List.set_cons_zero])
  apply seq_op (V := .bool (a0.kind == 1)) rfl
  · intro Φ hΦ; refine O_mv rfl rfl ?_; exact hΦ
  (try simp only [Act.put, List.setIfInBounds_toArray, List.set_cons_succ, List.set_cons_zero])
  refine seq_opg (c := (!(a0.kind == 1))) (V := .pointer (some ⟨b1, 0, none⟩)) (by first | exact wanted_f rfl rfl rfl | exact wanted_vf rfl rfl rfl) ?_ ?_
  · intro hc Φ hΦ; refine O_fld rfl Try.underlying35 rfl (Try.sizeOf3 _) rfl ?_; exact hΦ
  (try simp only [Act.put, List.setIfInBounds_toArray, List.set_cons_succ, List.set_cons_zero])
  refine seq_opg (c := (!(a0.kind == 1))) (V := .int .i64 a0.kind) (by first | exact wanted_f rfl rfl rfl | exact wanted_vf rfl rfl rfl) ?_ ?_
  · intro hc Φ hΦ; (repeat (first | rw [vg_of hc] | rw [vg_of (and_l hc)] | rw [vg_of (and_l (and_l hc))] | rw [vg_of (and_l (and_l (and_l hc)))] | rw [vg_and hc])); refine L_1 0 _ _ rfl (Try.isAgg3 _) rfl H rfl rfl ?_; exact hΦ
  (try simp only [Act.put, List.setIfInBounds_toArray, List.set_cons_succ, List.set_cons_zero])
  refine seq_opg (c := (!(a0.kind == 1))) (V := .bool (a0.kind == 3)) (by first | exact wanted_f rfl rfl rfl | exact wanted_vf rfl rfl rfl) ?_ ?_
  · intro hc Φ hΦ; (repeat (first | rw [vg_of hc] | rw [vg_of (and_l hc)] | rw [vg_of (and_l (and_l hc))] | rw [vg_of (and_l (and_l (and_l hc)))] | rw [vg_and hc])); refine O_bin rfl rfl rfl eqg_int r_eql ?_; exact hΦ
  (try simp only [Act.put, List.setIfInBounds_toArray, List.set_cons_succ, List.set_cons_zero])
  apply seq_op (V := .bool ((a0.kind == 1) || (a0.kind == 3))) rfl
  · intro Φ hΦ; refine G_or _ _ _ rfl rfl rfl rfl ?_; exact hΦ
  (try simp only [Act.put, List.setIfInBounds_toArray, List.set_cons_succ, List.set_cons_zero])
  apply seq_op (V := .bool ((a0.kind == 1) || (a0.kind == 3))) rfl
  · intro Φ hΦ; refine O_as rfl rfl ?_; exact hΦ
  (try simp only [Act.put, List.setIfInBounds_toArray, List.set_cons_succ, List.set_cons_zero])
  refine list_end ?_
  refine then_norm ?_
  refine wp_ret ?_
  subst hm
  replace H := H.dropAt 0 rfl; simp only [List.eraseIdx_cons_succ, List.eraseIdx_cons_zero] at H
  exact ret1 rfl (rv_tmp rfl) rfl ⟨rfl, H⟩
def slices_IndexFunc_Op_assayerlaw04_TableUnique_1_l2  : Nat → List Op' → (Int ⊕ Unit)
  | k2, []  => .inr ()
  | k2, x2 :: r2 => if (assayerlaw04_TableUnique_1_f x2) = true then (.inl (k2 : Int)) else (slices_IndexFunc_Op_assayerlaw04_TableUnique_1_l2 (k2 + 1) r2)

def slices_IndexFunc_Op_assayerlaw04_TableUnique_1_f (a0 : List Op') : Int := letF (slices_IndexFunc_Op_assayerlaw04_TableUnique_1_l2 0 a0) fun | .inl z2_r => z2_r | .inr () => (-1)

set_option maxHeartbeats 4000000 in
theorem slices_IndexFunc_Op_assayerlaw04_TableUnique_1_w {E : World} {s : SH} {L : List HP} {w : World} {a0 : List Op'} {A_p0 : Option Addr} {c_p0 : Nat} (h_p0 : kOp.Sl s (.slice A_p0 a0.length c_p0) a0) (H : Holds E s (L) w) :
    Calls Try.prog 63 #[.slice A_p0 a0.length c_p0, .func (.func 20) #[] #[]] w fun e w' => e = .returned (.int .i64 (slices_IndexFunc_Op_assayerlaw04_TableUnique_1_f a0)) ∧ Holds E s (L) w' := by
  obtain ⟨R, hm⟩ : ∃ R, slices_IndexFunc_Op_assayerlaw04_TableUnique_1_f a0 = R := ⟨_, rfl⟩
  (try rw [hm])
  unfold slices_IndexFunc_Op_assayerlaw04_TableUnique_1_f at hm
  go_enter Try.func63, Try.ntmps63
  refine wp_seq ?_
  refine wp_region_lit ?_
  apply seq_op (V := .int .i64 0) rfl
  · intro Φ hΦ; refine O_as rfl rfl ?_; exact hΦ
  (try simp only [Act.put, List.setIfInBounds_toArray, List.set_cons_succ, List.set_cons_zero])
  refine list_end ?_
  refine then_norm ?_
  refine wp_seq ?_
  refine wp_seq ?_
  refine wp_region_lit ?_
  apply seq_op (V := .slice A_p0 a0.length c_p0) rfl
  · intro Φ hΦ; refine O_mv rfl rfl ?_; exact hΦ
  (try simp only [Act.put, List.setIfInBounds_toArray, List.set_cons_succ, List.set_cons_zero])
  apply seq_op (V := .int .i64 (a0.length : Int)) rfl
  · intro Φ hΦ; refine O_len rfl Try.underlying28 rfl ?_; exact hΦ
  (try simp only [Act.put, List.setIfInBounds_toArray, List.set_cons_succ, List.set_cons_zero])
  apply seq_op (V := .int .i64 0) rfl
  · intro Φ hΦ; refine O_mv rfl rfl ?_; exact hΦ
  (try simp only [Act.put, List.setIfInBounds_toArray, List.set_cons_succ, List.set_cons_zero])
  refine list_end ?_
  refine then_norm ?_
  refine wp_block ?_
  obtain ⟨R2, hq2, hm⟩ := lfe hm
  have hn2 := Nat.le_trans (len_le (d := kOp) h_p0 (by decide)) (by decide : (140737488355328 : Nat) ≤ 9223372036854775807)
  refine wp_loopF [none, none, none, none, some 4, some 5, none, none, some 8, some 9, some 10, some 11, some 12, some 13, some 14, some 15, some 16, some 17, some 18] rfl (by simp) (fun f w => ∃ (k2 : Nat) (r2 : List Op'), a0.drop k2 = r2 ∧ f 8 = .int .i64 (k2 : Int) ∧ slices_IndexFunc_Op_assayerlaw04_TableUnique_1_l2 k2 r2 = R2 ∧ Holds E s (L) w) (fun f w => a0.length - (intOf (f 8)).toNat) ?_ ?_
  · exact ⟨0, a0, rfl, rfl, hq2, H⟩
  · clear H
    intro f w hI
    obtain ⟨k2, r2, hd2, hf8, hq2', H⟩ := hI
    clear hq2; have hq2 := hq2'; clear hq2'
    simp only [ovm, mixM]
    simp only [hf8]; clear hf8
    refine wp_seq ?_
    refine wp_region_lit ?_
    apply seq_op (V := .bool (decide ((k2 : Int) < (a0.length : Int)))) rfl
    · intro Φ hΦ; refine O_bin rfl rfl rfl eqg_int r_lss ?_; exact hΦ
    (try simp only [Act.put, List.setIfInBounds_toArray, List.set_cons_succ, List.set_cons_zero])
    refine list_end ?_
    refine then_norm ?_
    refine wp_seq ?_
    refine wp_cond_split rfl (fun hc => ?_) (fun hc => ?_)
    · have hc1 := hc
      clear hc
      obtain ⟨x2, r2', rfl, hd2', hd2'', hl2⟩ := rng_t hd2 hc1
      rw [slices_IndexFunc_Op_assayerlaw04_TableUnique_1_l2] at hq2
      refine wp_skip ?_
      refine then_norm ?_
      refine wp_seq ?_
      refine wp_block ?_
      refine wp_seq ?_
      refine wp_region_lit ?_
      apply seq_op (V := .int .i64 (k2 : Int)) rfl
      · intro Φ hΦ; refine O_mv rfl rfl ?_; exact hΦ
      (try simp only [Act.put, List.setIfInBounds_toArray, List.set_cons_succ, List.set_cons_zero])
      apply seq_op (V := .int .i64 (k2 : Int)) rfl
      · intro Φ hΦ; refine O_as rfl rfl ?_; exact hΦ
      (try simp only [Act.put, List.setIfInBounds_toArray, List.set_cons_succ, List.set_cons_zero])
      refine list_end ?_
      refine then_norm ?_
      refine wp_seq ?_
      obtain ⟨be1, oe1, A3e1, c3e1, rfl, hCe1, h0e1, h1e1, h2e1, h3e1⟩ := kOp_el h_p0 hd2'
      refine wp_region_lit ?_
      apply seq_op (V := .func (.func 20) #[] #[]) rfl
      · intro Φ hΦ; refine O_mv rfl rfl ?_; exact hΦ
      (try simp only [Act.put, List.setIfInBounds_toArray, List.set_cons_succ, List.set_cons_zero])
      apply seq_op (V := .slice (some ⟨be1, oe1, none⟩) a0.length c_p0) rfl
      · intro Φ hΦ; refine O_mv rfl rfl ?_; exact hΦ
      (try simp only [Act.put, List.setIfInBounds_toArray, List.set_cons_succ, List.set_cons_zero])
      apply seq_op (V := .int .i64 (k2 : Int)) rfl
      · intro Φ hΦ; refine O_mv rfl rfl ?_; exact hΦ
      (try simp only [Act.put, List.setIfInBounds_toArray, List.set_cons_succ, List.set_cons_zero])
      apply seq_op (V := .pointer (some ⟨be1, oe1 + k2 * 6, none⟩)) rfl
      · intro Φ hΦ; refine O_ix rfl Try.underlying28 (Try.sizeOf35 _) rfl rfl rfl hl2 ?_; exact hΦ
      (try simp only [Act.put, List.setIfInBounds_toArray, List.set_cons_succ, List.set_cons_zero])
      apply seq_op (V := .agg #[.int .i64 x2.kind, .string x2.key, .int .i64 x2.value, .slice A3e1 x2.list.length c3e1, .bool x2.has, .bool x2.isNil]) rfl
      · intro Φ hΦ; refine G_sN _ _ rfl (Try.isAgg35 _) rfl H hCe1 (Try.sizeOf35 _) ?_; exact hΦ
      (try simp only [Act.put, List.setIfInBounds_toArray, List.set_cons_succ, List.set_cons_zero])
      refine seq_call rfl (fun Φ hΦ => by refine O_callv1 (args := #[.agg #[.int .i64 x2.kind, .string x2.key, .int .i64 x2.value, .slice A3e1 x2.list.length c3e1, .bool x2.has, .bool x2.isNil]]) (v1 := .agg #[.int .i64 x2.kind, .string x2.key, .int .i64 x2.value, .slice A3e1 x2.list.length c3e1, .bool x2.has, .bool x2.isNil]) rfl Try.func20 rfl rfl rfl rfl (by simp only [Array.append_empty]) hΦ) (assayerlaw04_TableUnique_1_w (a0 := x2) (h_p0_list := h3e1) (H := H)) ?_
      clear H
      rintro e w1 ⟨rfl, H⟩; refine ⟨_, rfl, ?_⟩
      (try simp only [Act.put, List.setIfInBounds_toArray, List.set_cons_succ, List.set_cons_zero])
      refine list_end ?_
      refine then_norm ?_
      refine wp_cond_split rfl (fun hc => ?_) (fun hc => ?_)
      · have hc2 := hc
        clear hc
        replace hq2 := ifT hc2 hq2
        refine wp_seq ?_
        refine wp_region_lit ?_
        apply seq_op (V := .int .i64 (k2 : Int)) rfl
        · intro Φ hΦ; refine O_mv rfl rfl ?_; exact hΦ
        (try simp only [Act.put, List.setIfInBounds_toArray, List.set_cons_succ, List.set_cons_zero])
        apply seq_op (V := .int .i64 (k2 : Int)) rfl
        · intro Φ hΦ; refine O_as rfl rfl ?_; exact hΦ
        (try simp only [Act.put, List.setIfInBounds_toArray, List.set_cons_succ, List.set_cons_zero])
        refine list_end ?_
        refine then_norm ?_
        refine wp_ret ?_
        refine block_ret ?_
        refine then_ret ?_
        refine then_ret ?_
        refine block_ret ?_
        refine then_ret ?_
        subst hq2
        (try dsimp only at hm)
        subst hm
        exact ret1 rfl (rv_tmp rfl) rfl ⟨rfl, H⟩
      · have hc2 := hc
        clear hc
        replace hq2 := ifF hc2 hq2
        refine wp_skip ?_
        refine block_norm ?_
        refine then_norm ?_
        refine wp_region_lit ?_
        apply seq_op (V := .int .i64 (IntKind.i64.wrap ((k2 : Int) + 1))) rfl
        · intro Φ hΦ; refine O_bin rfl rfl rfl eqg_int r_add ?_; exact hΦ
        (try simp only [Act.put, List.setIfInBounds_toArray, List.set_cons_succ, List.set_cons_zero])
        apply seq_op (V := .int .i64 (IntKind.i64.wrap ((k2 : Int) + 1))) rfl
        · intro Φ hΦ; refine O_mv rfl rfl ?_; exact hΦ
        (try simp only [Act.put, List.setIfInBounds_toArray, List.set_cons_succ, List.set_cons_zero])
        refine list_end ?_
        refine then_norm ?_
        refine ⟨⟨⟨rfl, rfl, rfl, rfl, rfl, rfl, rfl⟩, rfl⟩, ⟨k2 + 1, _, hd2'', wrap_succ hl2 hn2, hq2, H⟩, ?_⟩
        exact meas_succ hl2 hn2
    · have hc1 := hc
      clear hc
      obtain rfl := rng_f hd2 hc1
      rw [slices_IndexFunc_Op_assayerlaw04_TableUnique_1_l2] at hq2
      refine wp_exit ?_
      refine then_exit ?_
      refine then_exit ?_
      subst hq2
      (try dsimp only at hm)
      refine block_exit ?_
      refine then_norm ?_
      refine wp_seq ?_
      refine wp_region_lit ?_
      apply seq_op (V := .int .i64 (-1)) rfl
      · intro Φ hΦ; refine O_as rfl rfl ?_; exact hΦ
      (try simp only [Act.put, List.setIfInBounds_toArray, List.set_cons_succ, List.set_cons_zero])
      refine list_end ?_
      refine then_norm ?_
      refine wp_ret ?_
      subst hm
      exact ret1 rfl (rv_tmp rfl) rfl ⟨rfl, H⟩
def slices_ContainsFunc_Op_assayerlaw04_TableUnique_1_f (a0 : List Op') : Bool := (decide ((slices_IndexFunc_Op_assayerlaw04_TableUnique_1_f a0) ≥ 0))

set_option maxHeartbeats 4000000 in
theorem slices_ContainsFunc_Op_assayerlaw04_TableUnique_1_w {E : World} {s : SH} {L : List HP} {w : World} {a0 : List Op'} {A_p0 : Option Addr} {c_p0 : Nat} (h_p0 : kOp.Sl s (.slice A_p0 a0.length c_p0) a0) (H : Holds E s (L) w) :
    Calls Try.prog 19 #[.slice A_p0 a0.length c_p0, .func (.func 20) #[] #[]] w fun e w' => e = .returned (.bool (slices_ContainsFunc_Op_assayerlaw04_TableUnique_1_f a0)) ∧ Holds E s (L) w' := by
  obtain ⟨R, hm⟩ : ∃ R, slices_ContainsFunc_Op_assayerlaw04_TableUnique_1_f a0 = R := ⟨_, rfl⟩
  (try rw [hm])
  unfold slices_ContainsFunc_Op_assayerlaw04_TableUnique_1_f at hm
  go_enter Try.func19, Try.ntmps19
  refine wp_seq ?_
  refine wp_region_lit ?_
  apply seq_op (V := .bool false) rfl
  · intro Φ hΦ; refine O_as rfl rfl ?_; exact hΦ
  (try simp only [Act.put, List.setIfInBounds_toArray, List.set_cons_succ, List.set_cons_zero])
  refine list_end ?_
  refine then_norm ?_
  refine wp_seq ?_
  refine wp_region_lit ?_
  apply seq_op (V := .slice A_p0 a0.length c_p0) rfl
  · intro Φ hΦ; refine O_mv rfl rfl ?_; exact hΦ
  (try simp only [Act.put, List.setIfInBounds_toArray, List.set_cons_succ, List.set_cons_zero])
  apply seq_op (V := .func (.func 20) #[] #[]) rfl
  · intro Φ hΦ; refine O_mv rfl rfl ?_; exact hΦ
  (try simp only [Act.put, List.setIfInBounds_toArray, List.set_cons_succ, List.set_cons_zero])
  refine seq_call rfl (fun Φ hΦ => by refine O_call2 rfl Try.func63 rfl rfl rfl rfl hΦ) (slices_IndexFunc_Op_assayerlaw04_TableUnique_1_w (a0 := a0) (h_p0 := h_p0) (H := H)) ?_
  clear H
  rintro e w1 ⟨rfl, H⟩; refine ⟨_, rfl, ?_⟩
  (try simp only [Act.put, List.setIfInBounds_toArray, List.set_cons_succ, List.set_cons_zero])
  apply seq_op (V := .bool (decide ((slices_IndexFunc_Op_assayerlaw04_TableUnique_1_f a0) ≥ 0))) rfl
  · intro Φ hΦ; refine O_bin rfl rfl rfl eqg_int r_geq ?_; exact hΦ
  (try simp only [Act.put, List.setIfInBounds_toArray, List.set_cons_succ, List.set_cons_zero])
  apply seq_op (V := .bool (decide ((slices_IndexFunc_Op_assayerlaw04_TableUnique_1_f a0) ≥ 0))) rfl
  · intro Φ hΦ; refine O_as rfl rfl ?_; exact hΦ
  (try simp only [Act.put, List.setIfInBounds_toArray, List.set_cons_succ, List.set_cons_zero])
  refine list_end ?_
  refine then_norm ?_
  refine wp_ret ?_
  subst hm
  exact ret1 rfl (rv_tmp rfl) rfl ⟨rfl, H⟩
theorem eqnil_kT (w : World) (a : Option Addr) (n c : Nat) : (binOp .eql 22 (.slice a n c) (.slice none 0 0)).run Try.prog w = .ok (.bool a.isNone) w := Lib.run_eql_slice_nil w _ _ a n c 0 0 Try.underlying22
attribute [local go_sem] eqnil_kT
set_option maxHeartbeats 400000 in
theorem clone_kT_w {E : World} {s : SH} {L : List HP} {w : World} {a0 : List Txn} {A_p0 : Option Addr} {c_p0 : Nat} (h_p0 : kT.Sl s (.slice A_p0 a0.length c_p0) a0) (H : Holds E s L w) :
    Calls Try.prog 21 #[.slice A_p0 a0.length c_p0] w fun e w' => ∃ A c n, e = .returned (.slice A n c) ∧ Holds E s ((kT.sh s).Osl (.slice A n c) a0 :: L) w' := by
  have hv0 := h_p0
  obtain ⟨A, cap, e, h1, h2, h3⟩ := h_p0
  cases e
  cases A_p0 with
  | none =>
    have : a0 = [] := Classical.byContradiction fun hx => by obtain ⟨b, off, cur, e, fr, k, _⟩ := h3 hx; cases k
    subst this
    go_enter Try.func21, Try.ntmps21
    go_wp2
    go_ret
    exact ⟨none, 0, 0, rfl, Kin.Osl.nil H⟩
  | some p =>
    go_enter Try.func21, Try.ntmps21
    go_wp2_with (first | ((with_reducible refine OpG.list rfl ?_); refine G_slice0 (d := kT.sh s) rfl Try.underlying22 Try.sizeOf30 H ?_; intro v1 w1 H1) | ((with_reducible refine OpG.list rfl ?_); refine G_appendS kT_at _ _ rfl H1 hv0 rfl rfl (by simpa using h2) ?_; intro v2 w2 H2; simp only [List.nil_append] at H2))
    obtain ⟨A2, c2, rfl, -⟩ := H2.len
    go_ret
    exact ⟨A2, c2, _, rfl, H2⟩
end Go.Proofs.Ytemdmpgekegfhaa
