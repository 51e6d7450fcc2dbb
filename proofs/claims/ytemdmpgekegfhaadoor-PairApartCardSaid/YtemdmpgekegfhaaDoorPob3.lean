/- Walks, printed by fx.py: part 3. -/
import Derived.Test.YtemdmpgekegfhaaDoorPob2
namespace Go.Proofs.YtemdmpgekegfhaaDoor
open Go.RowKit
set_option linter.all false
set_option maxRecDepth 10000
theorem O_mkptr {P : Program} {o : Oper} {a : Act} {w : World} {Φ : Value → World → Prop} {t e : TypeId} {x : Operand} {v : Value} (ho : o.op = .makeInterface t x) (ht : P.underlying t = some (.pointer e)) (hx : a.eval x = v) (h : Φ (.iface t v) w) : OpG P o a w Φ := by
  have hr : (Instr.makeInterface t v).run P w = .ok (.iface t v) w := by simp [Instr.makeInterface, run_underlying ht]
  unfold OpG execOp
  simp only [ho, hx, Sem.run_bind, Sem.run_pure, Result.andThen_ok, hr, Oper.gives]
  exact h
def pair_Txns_l8  : Nat → List Ev → (List Txn) → (Int → Option Int) → Option (((Int → Option Int) × (List Txn)))
  | k8, [] , y8_6, y8_p1 => some (y8_p1, y8_6)
  | k8, x8 :: r8, y8_6, y8_p1 => (histtext_CopyOps_f x8.ops).bind fun u2 => if (x8.kind == 1) = true then ((app 56 y8_6 (⟨x8.proc, 3, (k8 : Int), (-1), u2⟩ : Txn)).bind fun u3 => pair_Txns_l8 (k8 + 1) r8 u3 (fset y8_p1 x8.proc (y8_6.length : Int))) else ((rdI y8_6 ((y8_p1 x8.proc).getD 0)).bind fun u4 => if (x8.kind == 2) = true then (pair_Txns_l8 (k8 + 1) r8 (setI (setI (setI y8_6 ((y8_p1 x8.proc).getD 0) (⟨u4.proc, u4.state, u4.from_, (k8 : Int), u4.ops⟩ : Txn)) ((y8_p1 x8.proc).getD 0) (⟨((⟨u4.proc, u4.state, u4.from_, (k8 : Int), u4.ops⟩ : Txn)).proc, ((⟨u4.proc, u4.state, u4.from_, (k8 : Int), u4.ops⟩ : Txn)).state, ((⟨u4.proc, u4.state, u4.from_, (k8 : Int), u4.ops⟩ : Txn)).from_, ((⟨u4.proc, u4.state, u4.from_, (k8 : Int), u4.ops⟩ : Txn)).to, u2⟩ : Txn)) ((y8_p1 x8.proc).getD 0) (⟨((⟨((⟨u4.proc, u4.state, u4.from_, (k8 : Int), u4.ops⟩ : Txn)).proc, ((⟨u4.proc, u4.state, u4.from_, (k8 : Int), u4.ops⟩ : Txn)).state, ((⟨u4.proc, u4.state, u4.from_, (k8 : Int), u4.ops⟩ : Txn)).from_, ((⟨u4.proc, u4.state, u4.from_, (k8 : Int), u4.ops⟩ : Txn)).to, u2⟩ : Txn)).proc, 1, ((⟨((⟨u4.proc, u4.state, u4.from_, (k8 : Int), u4.ops⟩ : Txn)).proc, ((⟨u4.proc, u4.state, u4.from_, (k8 : Int), u4.ops⟩ : Txn)).state, ((⟨u4.proc, u4.state, u4.from_, (k8 : Int), u4.ops⟩ : Txn)).from_, ((⟨u4.proc, u4.state, u4.from_, (k8 : Int), u4.ops⟩ : Txn)).to, u2⟩ : Txn)).from_, ((⟨((⟨u4.proc, u4.state, u4.from_, (k8 : Int), u4.ops⟩ : Txn)).proc, ((⟨u4.proc, u4.state, u4.from_, (k8 : Int), u4.ops⟩ : Txn)).state, ((⟨u4.proc, u4.state, u4.from_, (k8 : Int), u4.ops⟩ : Txn)).from_, ((⟨u4.proc, u4.state, u4.from_, (k8 : Int), u4.ops⟩ : Txn)).to, u2⟩ : Txn)).to, ((⟨((⟨u4.proc, u4.state, u4.from_, (k8 : Int), u4.ops⟩ : Txn)).proc, ((⟨u4.proc, u4.state, u4.from_, (k8 : Int), u4.ops⟩ : Txn)).state, ((⟨u4.proc, u4.state, u4.from_, (k8 : Int), u4.ops⟩ : Txn)).from_, ((⟨u4.proc, u4.state, u4.from_, (k8 : Int), u4.ops⟩ : Txn)).to, u2⟩ : Txn)).ops⟩ : Txn)) y8_p1) else (if (x8.kind == 3) = true then (pair_Txns_l8 (k8 + 1) r8 (setI (setI (setI y8_6 ((y8_p1 x8.proc).getD 0) (⟨u4.proc, u4.state, u4.from_, (k8 : Int), u4.ops⟩ : Txn)) ((y8_p1 x8.proc).getD 0) (⟨((⟨u4.proc, u4.state, u4.from_, (k8 : Int), u4.ops⟩ : Txn)).proc, ((⟨u4.proc, u4.state, u4.from_, (k8 : Int), u4.ops⟩ : Txn)).state, ((⟨u4.proc, u4.state, u4.from_, (k8 : Int), u4.ops⟩ : Txn)).from_, ((⟨u4.proc, u4.state, u4.from_, (k8 : Int), u4.ops⟩ : Txn)).to, u2⟩ : Txn)) ((y8_p1 x8.proc).getD 0) (⟨((⟨((⟨u4.proc, u4.state, u4.from_, (k8 : Int), u4.ops⟩ : Txn)).proc, ((⟨u4.proc, u4.state, u4.from_, (k8 : Int), u4.ops⟩ : Txn)).state, ((⟨u4.proc, u4.state, u4.from_, (k8 : Int), u4.ops⟩ : Txn)).from_, ((⟨u4.proc, u4.state, u4.from_, (k8 : Int), u4.ops⟩ : Txn)).to, u2⟩ : Txn)).proc, 2, ((⟨((⟨u4.proc, u4.state, u4.from_, (k8 : Int), u4.ops⟩ : Txn)).proc, ((⟨u4.proc, u4.state, u4.from_, (k8 : Int), u4.ops⟩ : Txn)).state, ((⟨u4.proc, u4.state, u4.from_, (k8 : Int), u4.ops⟩ : Txn)).from_, ((⟨u4.proc, u4.state, u4.from_, (k8 : Int), u4.ops⟩ : Txn)).to, u2⟩ : Txn)).from_, ((⟨((⟨u4.proc, u4.state, u4.from_, (k8 : Int), u4.ops⟩ : Txn)).proc, ((⟨u4.proc, u4.state, u4.from_, (k8 : Int), u4.ops⟩ : Txn)).state, ((⟨u4.proc, u4.state, u4.from_, (k8 : Int), u4.ops⟩ : Txn)).from_, ((⟨u4.proc, u4.state, u4.from_, (k8 : Int), u4.ops⟩ : Txn)).to, u2⟩ : Txn)).to, ((⟨((⟨u4.proc, u4.state, u4.from_, (k8 : Int), u4.ops⟩ : Txn)).proc, ((⟨u4.proc, u4.state, u4.from_, (k8 : Int), u4.ops⟩ : Txn)).state, ((⟨u4.proc, u4.state, u4.from_, (k8 : Int), u4.ops⟩ : Txn)).from_, ((⟨u4.proc, u4.state, u4.from_, (k8 : Int), u4.ops⟩ : Txn)).to, u2⟩ : Txn)).ops⟩ : Txn)) y8_p1) else (pair_Txns_l8 (k8 + 1) r8 (setI (setI y8_6 ((y8_p1 x8.proc).getD 0) (⟨u4.proc, u4.state, u4.from_, (k8 : Int), u4.ops⟩ : Txn)) ((y8_p1 x8.proc).getD 0) (⟨((⟨u4.proc, u4.state, u4.from_, (k8 : Int), u4.ops⟩ : Txn)).proc, ((⟨u4.proc, u4.state, u4.from_, (k8 : Int), u4.ops⟩ : Txn)).state, ((⟨u4.proc, u4.state, u4.from_, (k8 : Int), u4.ops⟩ : Txn)).from_, ((⟨u4.proc, u4.state, u4.from_, (k8 : Int), u4.ops⟩ : Txn)).to, u2⟩ : Txn)) y8_p1)))

def pair_Txns_f (a0 : List Ev) : Option ((List Txn) × (Option Flt)) := (pair_Check_f a0).bind fun u1 => if ((as_f u1 (⟨0, 0⟩ : Flt)).1) = true then (some ([], some (⟨(as_f u1 (⟨0, 0⟩ : Flt)).2.at_, (as_f u1 (⟨0, 0⟩ : Flt)).2.why⟩ : Flt))) else ((pair_Txns_l8 0 a0 [] fnil).bind fun (z8_p1, z8_6) => some (z8_6, none))

set_option maxHeartbeats 4000000 in
theorem pair_Txns_w {E : World} {s : SH} {L : List HP} {w : World} {a0 : List Ev} (h_gv : Eg s) {A_p0 : Option Addr} {c_p0 : Nat} (h_p0 : kEv.Sl s (.slice A_p0 a0.length c_p0) a0) {R : (List Txn) × (Option Flt)} (hm : pair_Txns_f a0 = some R) (H : Holds E s (L) w) :
    Calls Tryd.prog 31 #[.slice A_p0 a0.length c_p0] w fun e w' => ∃ A0 c0 n0 s', e = .returned (.tuple #[.slice A0 n0 c0, encErr R.2]) ∧ Sub s s' ∧ Holds E s' ((kT.sh s').Osl (.slice A0 n0 c0) R.1 :: L) w' := by
  unfold pair_Txns_f at hm
  go_enter Tryd.func31, Tryd.ntmps31
  refine wp_seq ?_
  refine wp_region_lit ?_
  apply seq_op (V := .slice none 0 0) rfl
  · exact fun _ h => O_as rfl rfl h
  (try simp only [PT])
  apply seq_op (V := .nilIface) rfl
  · exact fun _ h => O_as rfl rfl h
  (try simp only [PT])
  refine list_end ?_
  refine then_norm ?_
  refine wp_seq ?_
  refine wp_region_lit ?_
  refine OpG.list rfl ?_; refine G_alloc 124 rfl (Tryd.zeroValue124 _) H ?_; clear H; intro b4 w1 H; (try simp only [Value.cells] at H)
  (try simp only [PT])
  refine list_end ?_
  refine then_norm ?_
  refine wp_seq ?_
  refine wp_seq ?_
  obtain ⟨u1, gx1, hm⟩ := bs hm
  refine wp_region_lit ?_
  apply seq_op (V := .slice A_p0 a0.length c_p0) rfl
  · exact fun _ h => O_mv rfl rfl h
  (try simp only [PT])
  refine seq_call rfl (fun Φ hΦ => by refine O_call1 rfl Tryd.func69 rfl rfl rfl hΦ) (pair_Check_w (a0 := a0) (h_p0 := h_p0) (hm := gx1) (H := H)) ?_
  clear H
  rintro e w1 ⟨rfl, H⟩; refine ⟨_, rfl, ?_⟩
  (try simp only [PT])
  apply seq_op (V := encErr u1) rfl
  · exact fun _ h => O_as rfl rfl h
  (try simp only [PT])
  refine list_end ?_
  refine then_norm ?_
  refine wp_seq ?_
  refine wp_region_lit ?_
  apply seq_op (V := encErr u1) rfl
  · exact fun _ h => O_mv rfl rfl h
  (try simp only [PT])
  apply seq_op (V := .iface 127 (.pointer (some ⟨b4, 0, none⟩))) rfl
  · exact fun _ h => O_mkptr rfl Tryd.underlying127 rfl h
  (try simp only [PT])
  refine seq_call rfl (fun Φ hΦ => by refine O_call2 rfl Tryd.func70 rfl rfl rfl rfl hΦ) (As_w (a0 := u1) (a1 := (⟨0, 0⟩ : Flt)) (h_gv := h_gv) (H := H)) ?_
  clear H
  rintro e w1 ⟨rfl, H⟩; refine ⟨_, rfl, ?_⟩
  (try simp only [PT])
  refine list_end ?_
  refine then_norm ?_
  refine wp_cond_split rfl (fun hc => ?_) (fun hc => ?_)
  · have hc1 := hc
    clear hc
    replace hm := ifT hc1 hm
    refine wp_seq ?_
    refine wp_draw_obO (k := 3) (sz := 74) (List.replicate 3 3) (fun _ => []) mixed (by simp) rfl (by kernel_rfl) (by kernel_rfl) (by kernel_rfl) H (by simp only [List.take_succ_cons, List.take_zero]; exact rfl) (by simp only [List.drop_succ_cons, List.drop_zero]; exact rfl)
      (fun y => by simp only [ov, Act.put, List.setIfInBounds_toArray, List.set_cons_succ, List.set_cons_zero, Nat.zero_add, Nat.reduceAdd]; exact rfl) ?_
    apply ObO.valw (V := .agg #[.int .i64 ((as_f u1 (⟨0, 0⟩ : Flt)).2.at_), .int .i64 ((as_f u1 (⟨0, 0⟩ : Flt)).2.why)])
    · intro x; rfl
    · intro s' w' y Φ R hs H hG hΦ; refine wantG rfl ?_; refine G_pNi 0 _ _ rfl (Tryd.isAgg124 _) rfl H rfl (Tryd.sizeOf124 _) ?_; exact hΦ _ _ (Sub.refl _) H
    apply ObO.valw (V := .iface 124 (.agg #[.int .i64 ((as_f u1 (⟨0, 0⟩ : Flt)).2.at_), .int .i64 ((as_f u1 (⟨0, 0⟩ : Flt)).2.why)]))
    · intro x; rfl
    · intro s' w' y Φ R hs H hG hΦ; simp only [List.nil_append, List.cons_append] at hG; have e0 : y 0 = _ := dh_get hG 0 rfl (by kernel_rfl); simp only [e0]; refine wantG rfl ?_; refine O_mkis rfl Tryd.underlying124 rfl ?_; exact hΦ _ _ (Sub.refl _) H
    apply ObO.valw (V := .slice none 0 0)
    · intro x; rfl
    · intro s' w' y Φ R hs H hG hΦ; refine wantG rfl ?_; refine O_as rfl rfl ?_; exact hΦ _ _ (Sub.refl _) H
    clear H
    intro s3 w3 yy hs3 H hG
    replace H := (show Holds _ _ ([] ++ _) _ from H); rw [List.nil_append] at H
    simp only [List.nil_append, List.cons_append] at hG
    have e0 : yy 0 = _ := gh_get hG 0 rfl
    have e1 : yy 1 = _ := gh_get hG 1 rfl
    have e2 : yy 2 = _ := gh_get hG 2 rfl
    simp only [e0, e1, e2]
    clear hG e0 e1 e2
    replace H := H.forget hs3; clear hs3
    apply seq_op (V := .iface 124 (.agg #[.int .i64 ((as_f u1 (⟨0, 0⟩ : Flt)).2.at_), .int .i64 ((as_f u1 (⟨0, 0⟩ : Flt)).2.why)])) rfl
    · exact fun _ h => O_as rfl rfl h
    (try simp only [PT])
    refine list_end ?_
    refine then_norm ?_
    refine wp_ret ?_
    refine then_ret ?_
    have hm := Option.some.inj hm
    subst hm
    replace H := Kin.Osl.nil (d := kT.sh s) H
    replace H := H.dropAt 1 rfl; simp only [List.eraseIdx_cons_succ, List.eraseIdx_cons_zero] at H
    exact ret2 rfl (rv_tmp rfl) (rv_tmp rfl) rfl ⟨none, 0, 0, s, rfl, Sub.refl _, H⟩
  · have hc1 := hc
    clear hc
    replace hm := ifF hc1 hm
    refine wp_skip ?_
    refine then_norm ?_
    refine wp_seq ?_
    refine wp_region_lit ?_
    apply seq_op (V := .slice none 0 0) rfl
    · exact fun _ h => O_as rfl rfl h
    (try simp only [PT])
    refine list_end ?_
    refine then_norm ?_
    refine wp_seq ?_
    refine wp_region_lit ?_
    refine OpG.list rfl ?_; refine F_make (K := kcI) (V := vcI) 34 rfl H ?_; clear H; intro r19 w1 H
    (try simp only [PT])
    apply seq_op (V := .map (some r19)) rfl
    · exact fun _ h => O_as rfl rfl h
    (try simp only [PT])
    refine list_end ?_
    refine then_norm ?_
    refine wp_seq ?_
    refine wp_seq ?_
    refine wp_region_lit ?_
    apply seq_op (V := .slice A_p0 a0.length c_p0) rfl
    · exact fun _ h => O_mv rfl rfl h
    (try simp only [PT])
    apply seq_op (V := .int .i64 (a0.length : Int)) rfl
    · exact fun _ h => O_len rfl Tryd.underlying55 rfl h
    (try simp only [PT])
    apply seq_op (V := .int .i64 0) rfl
    · exact fun _ h => O_mv rfl rfl h
    (try simp only [PT])
    refine list_end ?_
    refine then_norm ?_
    refine wp_block ?_
    replace H := Kin.Osl.nil (d := kT.sh s) H
    obtain ⟨R8, hq8, hm⟩ := bs hm
    have hn8 := Nat.le_trans (len_le (d := kEv) h_p0 (by decide)) (by decide : (140737488355328 : Nat) ≤ 9223372036854775807)
    refine wp_loopF [none, none, none, none, none, none, some 6, none, some 8, some 9, some 10, some 11, none, none, none, none, none, none, none, none, none, none, some 22, some 23, some 24, some 25, some 26, some 27, some 28, some 29, some 30, some 31, some 32, some 33, some 34, some 35, some 36, some 37, some 38, some 39, some 40, some 41, some 42, some 43, some 44, some 45, some 46, some 47, some 48, some 49, some 50, some 51, some 52, some 53, some 54, some 55, some 56, some 57, some 58, some 59, some 60, some 61, some 62, some 63, some 64, some 65, some 66, some 67, some 68, some 69, some 70, some 71, some 72, none] rfl (by simp) (fun f w => ∃ (k8 : Nat) (r8 : List Ev) (sL8 : SH) (y8_6 : List Txn) (A_y8_6 : Option Addr) (c_y8_6 : Nat) (n_y8_6 : Nat) (y8_p1 : Int → Option Int), Sub s sL8 ∧ a0.drop k8 = r8 ∧ f 22 = .int .i64 (k8 : Int) ∧ f 6 = .slice A_y8_6 n_y8_6 c_y8_6 ∧ pair_Txns_l8 k8 r8 y8_6 y8_p1 = some R8 ∧ Holds E sL8 ((kT.sh sL8).Osl (.slice A_y8_6 n_y8_6 c_y8_6) y8_6 :: mpF kcI vcI r19 y8_p1 :: pt b4 (.cells #[.int .i64 ((as_f u1 (⟨0, 0⟩ : Flt)).2.at_), .int .i64 ((as_f u1 (⟨0, 0⟩ : Flt)).2.why)] 124 (0, 0)) :: L) w) (fun f w => a0.length - (intOf (f 22)).toNat) ?_ ?_
    · exact ⟨0, a0, s, [], none, 0, 0, fnil, Sub.refl _, rfl, rfl, rfl, hq8, H⟩
    · clear H
      intro f w hI
      obtain ⟨k8, r8, sL8, y8_6, A_y8_6, c_y8_6, n_y8_6, y8_p1, hs8, hd8, hf22, hf6, hq8', H⟩ := hI
      clear hq8; have hq8 := hq8'; clear hq8'
      simp only [ovm, mixM]
      simp only [hf22, hf6]; clear hf22 hf6
      replace h_gv := h_gv.mono hs8
      replace h_p0 := h_p0.mono hs8
      have hS := hs8
      refine wp_seq ?_
      refine wp_region_lit ?_
      apply seq_op (V := .bool (decide ((k8 : Int) < (a0.length : Int)))) rfl
      · exact fun _ h => O_bin rfl rfl rfl eqg_int r_lss h
      (try simp only [PT])
      refine list_end ?_
      refine then_norm ?_
      refine wp_seq ?_
      refine wp_cond_split rfl (fun hc => ?_) (fun hc => ?_)
      · have hc2 := hc
        clear hc
        obtain ⟨x8, r8', rfl, hd8', hd8'', hl8⟩ := rng_t hd8 hc2
        rw [pair_Txns_l8] at hq8
        refine wp_skip ?_
        refine then_norm ?_
        refine wp_seq ?_
        refine wp_block ?_
        refine wp_seq ?_
        obtain ⟨be1, oe1, A2e1, c2e1, rfl, hCe1, h0e1, h1e1, h2e1⟩ := kEv_el h_p0 hd8'
        refine wp_region_lit ?_
        apply seq_op (V := .int .i64 (k8 : Int)) rfl
        · exact fun _ h => O_mv rfl rfl h
        (try simp only [PT])
        apply seq_op (V := .pointer (some ⟨be1, oe1 + k8 * 3, none⟩)) rfl
        · exact fun _ h => O_ix rfl Tryd.underlying55 (Tryd.sizeOf73 _) rfl rfl rfl hl8 h
        (try simp only [PT])
        apply seq_op (V := .agg #[.int .i64 x8.kind, .int .i64 x8.proc, .slice A2e1 x8.ops.length c2e1]) rfl
        · exact fun _ h => G_sN _ _ rfl (Tryd.isAgg73 _) rfl H hCe1 (Tryd.sizeOf73 _) h
        (try simp only [PT])
        refine OpG.list rfl ?_; refine G_alloc 73 rfl (Tryd.zeroValue73 _) H ?_; clear H; intro b9 w1 H; (try simp only [Value.cells] at H)
        (try simp only [PT])
        apply seq_op (V := .int .i64 (k8 : Int)) rfl
        · exact fun _ h => O_as rfl rfl h
        (try simp only [PT])
        refine OpG.list rfl ?_; refine G_setNi 0 (c := [.int .i64 x8.kind, .int .i64 x8.proc, .slice A2e1 x8.ops.length c2e1]) _ _ _ rfl (Tryd.sizeOf73 _) rfl rfl (by simp [Value.oneCell']) H rfl rfl ?_; clear H; intro w1 H; simp only [List.set_cons_succ, List.set_cons_zero] at H
        (try simp only [PT])
        refine list_end ?_
        refine then_norm ?_
        refine wp_seq ?_
        obtain ⟨u2, gx2, hq8⟩ := bs hq8
        refine wp_region_lit ?_
        apply seq_op (V := .pointer (some ⟨b9, 2, none⟩)) rfl
        · exact fun _ h => O_fld rfl Tryd.underlying73 rfl (Tryd.sizeOf71 _) rfl h
        (try simp only [PT])
        apply seq_op (V := .slice A2e1 x8.ops.length c2e1) rfl
        · exact fun _ h => L_1 0 _ _ rfl (Tryd.isAgg71 _) rfl H rfl rfl h
        (try simp only [PT])
        refine seq_call rfl (fun Φ hΦ => by refine O_call1 rfl Tryd.func71 rfl rfl rfl hΦ) (histtext_CopyOps_w (a0 := x8.ops) (h_p0 := h2e1) (hm := gx2) (H := H)) ?_
        clear H
        rintro e w1 ⟨Ar30, cr30, nr30, s1, rfl, hs', H⟩; refine ⟨_, rfl, ?_⟩
        obtain rfl := osl_len 0 H rfl
        replace h_gv := h_gv.mono hs'
        replace h_p0 := h_p0.mono hs'
        replace hCe1 := hCe1.mono hs'
        replace h2e1 := h2e1.mono hs'
        replace H := Holds.mapAt (A := (kT.sh sL8).Osl (.slice A_y8_6 n_y8_6 c_y8_6) y8_6) (B := (kT.sh s1).Osl (.slice A_y8_6 n_y8_6 c_y8_6) y8_6) 2 rfl (fun h k => Kin.Osl.sh_mono (d := kT) hs' h k) H; simp only [List.set_cons_succ, List.set_cons_zero] at H
        replace hS := hS.trans hs'
        replace hs8 := hs8.trans hs'
        skip
        obtain ⟨s2, hs', H, hf1⟩ := Kin.Osl.fr H; replace hf1 := hf1.unsh hs'
        replace h_gv := h_gv.mono hs'
        replace h_p0 := h_p0.mono hs'
        replace hCe1 := hCe1.mono hs'
        replace h2e1 := h2e1.mono hs'
        replace H := Holds.mapAt (A := (kT.sh s1).Osl (.slice A_y8_6 n_y8_6 c_y8_6) y8_6) (B := (kT.sh s2).Osl (.slice A_y8_6 n_y8_6 c_y8_6) y8_6) 1 rfl (fun h k => Kin.Osl.sh_mono (d := kT) hs' h k) H; simp only [List.set_cons_succ, List.set_cons_zero] at H
        replace hS := hS.trans hs'
        replace hs8 := hs8.trans hs'
        (try simp only [PT])
        apply seq_op (V := .slice Ar30 u2.length cr30) rfl
        · exact fun _ h => O_as rfl rfl h
        (try simp only [PT])
        refine list_end ?_
        refine then_norm ?_
        refine wp_seq ?_
        refine wp_seq ?_
        refine wp_region_lit ?_
        apply seq_op (V := .pointer (some ⟨b9, 0, none⟩)) rfl
        · exact fun _ h => O_fld rfl Tryd.underlying73 rfl (Tryd.sizeOf3 _) rfl h
        (try simp only [PT])
        apply seq_op (V := .int .i64 x8.kind) rfl
        · exact fun _ h => L_1 0 _ _ rfl (Tryd.isAgg3 _) rfl H rfl rfl h
        (try simp only [PT])
        apply seq_op (V := .bool (x8.kind == 1)) rfl
        · exact fun _ h => O_bin rfl rfl rfl eqg_int r_eql h
        (try simp only [PT])
        refine list_end ?_
        refine then_norm ?_
        refine wp_cond_split rfl (fun hc => ?_) (fun hc => ?_)
        · have hc3 := hc
          clear hc
          replace hq8 := ifT hc3 hq8
          refine wp_seq ?_
          obtain rfl := osl_len 1 H rfl
          have gn1 : Kin.inI64 ((y8_6.length : Nat) : Int) := osl_i 1 H rfl (by decide : 0 < kT.by_)
          refine wp_region_lit ?_
          apply seq_op (V := .map (some r19)) rfl
          · exact fun _ h => O_mv rfl rfl h
          (try simp only [PT])
          apply seq_op (V := .pointer (some ⟨b9, 1, none⟩)) rfl
          · exact fun _ h => O_fld rfl Tryd.underlying73 rfl (Tryd.sizeOf3 _) rfl h
          (try simp only [PT])
          apply seq_op (V := .int .i64 x8.proc) rfl
          · exact fun _ h => L_1 0 _ _ rfl (Tryd.isAgg3 _) rfl H rfl rfl h
          (try simp only [PT])
          apply seq_op (V := .slice A_y8_6 y8_6.length c_y8_6) rfl
          · exact fun _ h => O_mv rfl rfl h
          (try simp only [PT])
          apply seq_op (V := .int .i64 (y8_6.length : Int)) rfl
          · exact fun _ h => O_len rfl Tryd.underlying57 rfl h
          (try simp only [PT])
          refine OpG.list rfl ?_; refine F_put mk_I 2 34 _ _ _ rfl Tryd.underlying34 (k := x8.proc) (v := (y8_6.length : Int)) h1e1 trivial rfl rfl rfl H rfl ?_; clear H; intro w1 H; simp only [List.set_cons_succ, List.set_cons_zero] at H
          (try simp only [PT])
          refine list_end ?_
          refine then_norm ?_
          refine wp_seq ?_
          obtain ⟨u3, gx3, hq8⟩ := bs hq8
          obtain ⟨hroomgx3, egx3⟩ := app_some gx3
          refine wp_region_lit ?_
          apply seq_op (V := .slice A_y8_6 y8_6.length c_y8_6) rfl
          · exact fun _ h => O_mv rfl rfl h
          (try simp only [PT])
          apply seq_op (V := .pointer (some ⟨b9, 1, none⟩)) rfl
          · exact fun _ h => O_fld rfl Tryd.underlying73 rfl (Tryd.sizeOf3 _) rfl h
          (try simp only [PT])
          apply seq_op (V := .int .i64 x8.proc) rfl
          · exact fun _ h => L_1 0 _ _ rfl (Tryd.isAgg3 _) rfl H rfl rfl h
          (try simp only [PT])
          apply seq_op (V := .int .i64 (k8 : Int)) rfl
          · exact fun _ h => O_mv rfl rfl h
          (try simp only [PT])
          apply seq_op (V := .slice Ar30 u2.length cr30) rfl
          · exact fun _ h => O_mv rfl rfl h
          (try simp only [PT])
          apply seq_op (V := .agg #[.int .i64 x8.proc, .int .i64 3, .int .i64 (k8 : Int), .int .i64 (-1), .slice Ar30 u2.length cr30]) rfl
          · exact fun _ h => O_bld (cs := [.int .i64 x8.proc, .int .i64 3, .int .i64 (k8 : Int), .int .i64 (-1), .slice Ar30 u2.length cr30]) rfl (by kernel_rfl) h
          (try simp only [PT])
          refine OpG.list rfl ?_; refine SL_1 rfl (v := .agg #[.int .i64 x8.proc, .int .i64 3, .int .i64 (k8 : Int), .int .i64 (-1), .slice Ar30 u2.length cr30]) rfl Tryd.underlying57 Tryd.sizeOf75 Tryd.zeroValue75 rfl rfl (by decide) (by decide) H ?_; clear H; intro b44 w1 H; (try simp only [Value.cells] at H)
          (try simp only [PT])
          refine OpG.list rfl ?_; refine AP_1 (p := (⟨x8.proc, 3, (k8 : Int), (-1), u2⟩ : Txn)) 1 kT_at _ _ rfl (kT_mk' (s := s2) (x := (⟨x8.proc, 3, (k8 : Int), (-1), u2⟩ : Txn)) h1e1 (by constructor <;> decide : Kin.inI64 3) (nat_i (Nat.le_of_lt hl8) hn8) (by constructor <;> decide : Kin.inI64 (-1)) hf1) H rfl rfl rfl hroomgx3 ?_; clear H; intro v1 w1 H; (try simp only [List.set_cons_succ, List.set_cons_zero] at H)
          rw [← egx3] at H
          obtain ⟨Av1, cv1, rfl, -⟩ := (H.front 1 rfl).len
          (try simp only [PT])
          apply seq_op (V := .slice Av1 u3.length cv1) rfl
          · exact fun _ h => O_as rfl rfl h
          (try simp only [PT])
          refine list_end ?_
          refine then_norm ?_
          refine wp_exit ?_
          refine then_exit ?_
          refine block_exit ?_
          refine then_norm ?_
          refine wp_region_lit ?_
          apply seq_op (V := .int .i64 (IntKind.i64.wrap ((k8 : Int) + 1))) rfl
          · exact fun _ h => O_bin rfl rfl rfl eqg_int r_add h
          (try simp only [PT])
          apply seq_op (V := .int .i64 (IntKind.i64.wrap ((k8 : Int) + 1))) rfl
          · exact fun _ h => O_mv rfl rfl h
          (try simp only [PT])
          refine list_end ?_
          refine then_norm ?_
          replace H := H.drop
          refine ⟨⟨⟨rfl, rfl, rfl, rfl, rfl, rfl, rfl, rfl, rfl, rfl, rfl, rfl, rfl, rfl, rfl, rfl, rfl, rfl, rfl⟩, rfl⟩, ⟨k8 + 1, _, s2, u3, Av1, cv1, u3.length, (fset y8_p1 x8.proc (y8_6.length : Int)), hs8, hd8'', wrap_succ hl8 hn8, rfl, hq8, H⟩, ?_⟩
          exact meas_succ hl8 hn8
        · have hc3 := hc
          clear hc
          replace hq8 := ifF hc3 hq8
          refine wp_skip ?_
          refine then_norm ?_
          refine wp_seq ?_
          obtain ⟨u4, gx4, hq8⟩ := bs hq8
          obtain ⟨kk1, gk1, gl1, gd1⟩ := rdI_some gx4
          obtain ⟨bokk1, rfl⟩ := own_addr 1 H rfl (fun e => by rw [e] at gl1; exact absurd gl1 (Nat.not_lt_zero _))
          have gngl1 := Nat.lt_of_lt_of_eq gl1 (osl_len 1 H rfl).symm
          obtain ⟨cse2, hKe2⟩ := own_has 1 H rfl gd1; obtain ⟨_, _, -, h0e2, h1e2, h2e2, h3e2, -⟩ := kT_op hKe2
          refine wp_region_lit ?_
          apply seq_op (V := .slice (some ⟨bokk1, 0, none⟩) n_y8_6 c_y8_6) rfl
          · exact fun _ h => O_mv rfl rfl h
          (try simp only [PT])
          apply seq_op (V := .map (some r19)) rfl
          · exact fun _ h => O_mv rfl rfl h
          (try simp only [PT])
          apply seq_op (V := .pointer (some ⟨b9, 1, none⟩)) rfl
          · exact fun _ h => O_fld rfl Tryd.underlying73 rfl (Tryd.sizeOf3 _) rfl h
          (try simp only [PT])
          apply seq_op (V := .int .i64 x8.proc) rfl
          · exact fun _ h => L_1 0 _ _ rfl (Tryd.isAgg3 _) rfl H rfl rfl h
          (try simp only [PT])
          apply seq_op (V := .int .i64 ((y8_p1 x8.proc).getD 0)) rfl
          · exact fun _ h => F_get mk_I 2 34 _ _ rfl Tryd.underlying34 (k := x8.proc) h1e1 rfl rfl H rfl (Tryd.zeroValue3 _) h
          (try simp only [PT])
          apply seq_op (V := .pointer (some ⟨bokk1, kk1 * 5, none⟩)) rfl
          · exact fun _ h => O_ixn rfl Tryd.underlying57 (Tryd.sizeOf75 _) rfl rfl gk1 gngl1 h
          (try simp only [PT])
          apply seq_op (V := .pointer (some ⟨bokk1, kk1 * 5, none⟩)) rfl
          · exact fun _ h => O_as rfl rfl h
          (try simp only [PT])
          refine list_end ?_
          refine then_norm ?_
          refine wp_seq ?_
          refine wp_region_lit ?_
          apply seq_op (V := .pointer (some ⟨bokk1, kk1 * 5, none⟩)) rfl
          · exact fun _ h => O_mv rfl rfl h
          (try simp only [PT])
          apply seq_op (V := .pointer (some ⟨bokk1, kk1 * 5, none⟩)) rfl
          · exact fun _ h => O_mv rfl rfl h
          (try simp only [PT])
          apply seq_op (V := .int .i64 (k8 : Int)) rfl
          · exact fun _ h => O_mv rfl rfl h
          (try simp only [PT])
          apply seq_op (V := .slice Ar30 u2.length cr30) rfl
          · exact fun _ h => O_mv rfl rfl h
          (try simp only [PT])
          apply seq_op (V := .pointer (some ⟨bokk1, kk1 * 5, none⟩)) rfl
          · exact fun _ h => O_nil rfl rfl h
          (try simp only [PT])
          apply seq_op (V := .pointer (some ⟨bokk1, kk1 * 5 + 3, none⟩)) rfl
          · exact fun _ h => O_fld rfl Tryd.underlying75 rfl (Tryd.sizeOf3 _) rfl h
          (try simp only [PT])
          refine OpG.list rfl ?_; refine G_ownsetF (d := kT) 1 _ _ _ rfl (Tryd.sizeOf3 _) (f := 3) (v := .int .i64 (k8 : Int)) (x' := (⟨u4.proc, u4.state, u4.from_, (k8 : Int), u4.ops⟩ : Txn)) rfl rfl (by decide) rfl H rfl gk1 gd1 rfl (fun cs h => by obtain ⟨_, _, rfl, h0', h1', h2', -, h4'⟩ := kT_op h; exact kT_mk' (s := s2) (x := (⟨u4.proc, u4.state, u4.from_, (k8 : Int), u4.ops⟩ : Txn)) h0' h1' h2' (nat_i (Nat.le_of_lt hl8) hn8) h4') ?_; clear H; intro w1 H; simp only [List.set_cons_succ, List.set_cons_zero] at H
          (try simp only [PT])
          obtain ⟨gd2, gl2⟩ := setI_drop (x := (⟨u4.proc, u4.state, u4.from_, (k8 : Int), u4.ops⟩ : Txn)) gk1 gl1
          apply seq_op (V := .pointer (some ⟨bokk1, kk1 * 5, none⟩)) rfl
          · exact fun _ h => O_nil rfl rfl h
          (try simp only [PT])
          apply seq_op (V := .pointer (some ⟨bokk1, kk1 * 5 + 4, none⟩)) rfl
          · exact fun _ h => O_fld rfl Tryd.underlying75 rfl (Tryd.sizeOf71 _) rfl h
          (try simp only [PT])
          refine OpG.list rfl ?_; refine G_ownsetF (d := kT) 1 _ _ _ rfl (Tryd.sizeOf71 _) (f := 4) (v := .slice Ar30 u2.length cr30) (x' := (⟨((⟨u4.proc, u4.state, u4.from_, (k8 : Int), u4.ops⟩ : Txn)).proc, ((⟨u4.proc, u4.state, u4.from_, (k8 : Int), u4.ops⟩ : Txn)).state, ((⟨u4.proc, u4.state, u4.from_, (k8 : Int), u4.ops⟩ : Txn)).from_, ((⟨u4.proc, u4.state, u4.from_, (k8 : Int), u4.ops⟩ : Txn)).to, u2⟩ : Txn)) rfl rfl (by decide) rfl H rfl gk1 gd2 rfl (fun cs h => by obtain ⟨_, _, rfl, h0', h1', h2', h3', -⟩ := kT_op h; exact kT_mk' (s := s2) (x := (⟨((⟨u4.proc, u4.state, u4.from_, (k8 : Int), u4.ops⟩ : Txn)).proc, ((⟨u4.proc, u4.state, u4.from_, (k8 : Int), u4.ops⟩ : Txn)).state, ((⟨u4.proc, u4.state, u4.from_, (k8 : Int), u4.ops⟩ : Txn)).from_, ((⟨u4.proc, u4.state, u4.from_, (k8 : Int), u4.ops⟩ : Txn)).to, u2⟩ : Txn)) h0' h1' h2' h3' hf1) ?_; clear H; intro w1 H; simp only [List.set_cons_succ, List.set_cons_zero] at H
          (try simp only [PT])
          obtain ⟨gd3, gl3⟩ := setI_drop (x := (⟨((⟨u4.proc, u4.state, u4.from_, (k8 : Int), u4.ops⟩ : Txn)).proc, ((⟨u4.proc, u4.state, u4.from_, (k8 : Int), u4.ops⟩ : Txn)).state, ((⟨u4.proc, u4.state, u4.from_, (k8 : Int), u4.ops⟩ : Txn)).from_, ((⟨u4.proc, u4.state, u4.from_, (k8 : Int), u4.ops⟩ : Txn)).to, u2⟩ : Txn)) gk1 gl2
          refine list_end ?_
          refine then_norm ?_
          refine wp_seq ?_
          refine wp_region_lit ?_
          apply seq_op (V := .pointer (some ⟨b9, 0, none⟩)) rfl
          · exact fun _ h => O_fld rfl Tryd.underlying73 rfl (Tryd.sizeOf3 _) rfl h
          (try simp only [PT])
          apply seq_op (V := .int .i64 x8.kind) rfl
          · exact fun _ h => L_1 0 _ _ rfl (Tryd.isAgg3 _) rfl H rfl rfl h
          (try simp only [PT])
          refine list_end ?_
          refine then_norm ?_
          refine wp_block ?_
          refine wp_seq ?_
          refine wp_region_lit ?_
          apply seq_op (V := .bool (x8.kind == 2)) rfl
          · exact fun _ h => O_bin rfl rfl rfl eqg_int r_eql h
          (try simp only [PT])
          apply seq_op (V := .bool (x8.kind == 2)) rfl
          · exact fun _ h => O_as rfl rfl h
          (try simp only [PT])
          refine list_end ?_
          refine then_norm ?_
          refine wp_cond_split rfl (fun hc => ?_) (fun hc => ?_)
          · have hc4 := hc
            clear hc
            replace hq8 := ifT hc4 hq8
            refine wp_region_lit ?_
            apply seq_op (V := .pointer (some ⟨bokk1, kk1 * 5, none⟩)) rfl
            · exact fun _ h => O_mv rfl rfl h
            (try simp only [PT])
            apply seq_op (V := .pointer (some ⟨bokk1, kk1 * 5, none⟩)) rfl
            · exact fun _ h => O_nil rfl rfl h
            (try simp only [PT])
            apply seq_op (V := .pointer (some ⟨bokk1, kk1 * 5 + 1, none⟩)) rfl
            · exact fun _ h => O_fld rfl Tryd.underlying75 rfl (Tryd.sizeOf3 _) rfl h
            (try simp only [PT])
            refine OpG.list rfl ?_; refine G_ownsetF (d := kT) 1 _ _ _ rfl (Tryd.sizeOf3 _) (f := 1) (v := .int .i64 1) (x' := (⟨((⟨((⟨u4.proc, u4.state, u4.from_, (k8 : Int), u4.ops⟩ : Txn)).proc, ((⟨u4.proc, u4.state, u4.from_, (k8 : Int), u4.ops⟩ : Txn)).state, ((⟨u4.proc, u4.state, u4.from_, (k8 : Int), u4.ops⟩ : Txn)).from_, ((⟨u4.proc, u4.state, u4.from_, (k8 : Int), u4.ops⟩ : Txn)).to, u2⟩ : Txn)).proc, 1, ((⟨((⟨u4.proc, u4.state, u4.from_, (k8 : Int), u4.ops⟩ : Txn)).proc, ((⟨u4.proc, u4.state, u4.from_, (k8 : Int), u4.ops⟩ : Txn)).state, ((⟨u4.proc, u4.state, u4.from_, (k8 : Int), u4.ops⟩ : Txn)).from_, ((⟨u4.proc, u4.state, u4.from_, (k8 : Int), u4.ops⟩ : Txn)).to, u2⟩ : Txn)).from_, ((⟨((⟨u4.proc, u4.state, u4.from_, (k8 : Int), u4.ops⟩ : Txn)).proc, ((⟨u4.proc, u4.state, u4.from_, (k8 : Int), u4.ops⟩ : Txn)).state, ((⟨u4.proc, u4.state, u4.from_, (k8 : Int), u4.ops⟩ : Txn)).from_, ((⟨u4.proc, u4.state, u4.from_, (k8 : Int), u4.ops⟩ : Txn)).to, u2⟩ : Txn)).to, ((⟨((⟨u4.proc, u4.state, u4.from_, (k8 : Int), u4.ops⟩ : Txn)).proc, ((⟨u4.proc, u4.state, u4.from_, (k8 : Int), u4.ops⟩ : Txn)).state, ((⟨u4.proc, u4.state, u4.from_, (k8 : Int), u4.ops⟩ : Txn)).from_, ((⟨u4.proc, u4.state, u4.from_, (k8 : Int), u4.ops⟩ : Txn)).to, u2⟩ : Txn)).ops⟩ : Txn)) rfl rfl (by decide) rfl H rfl gk1 gd3 rfl (fun cs h => by obtain ⟨_, _, rfl, h0', -, h2', h3', h4'⟩ := kT_op h; exact kT_mk' (s := s2) (x := (⟨((⟨((⟨u4.proc, u4.state, u4.from_, (k8 : Int), u4.ops⟩ : Txn)).proc, ((⟨u4.proc, u4.state, u4.from_, (k8 : Int), u4.ops⟩ : Txn)).state, ((⟨u4.proc, u4.state, u4.from_, (k8 : Int), u4.ops⟩ : Txn)).from_, ((⟨u4.proc, u4.state, u4.from_, (k8 : Int), u4.ops⟩ : Txn)).to, u2⟩ : Txn)).proc, 1, ((⟨((⟨u4.proc, u4.state, u4.from_, (k8 : Int), u4.ops⟩ : Txn)).proc, ((⟨u4.proc, u4.state, u4.from_, (k8 : Int), u4.ops⟩ : Txn)).state, ((⟨u4.proc, u4.state, u4.from_, (k8 : Int), u4.ops⟩ : Txn)).from_, ((⟨u4.proc, u4.state, u4.from_, (k8 : Int), u4.ops⟩ : Txn)).to, u2⟩ : Txn)).from_, ((⟨((⟨u4.proc, u4.state, u4.from_, (k8 : Int), u4.ops⟩ : Txn)).proc, ((⟨u4.proc, u4.state, u4.from_, (k8 : Int), u4.ops⟩ : Txn)).state, ((⟨u4.proc, u4.state, u4.from_, (k8 : Int), u4.ops⟩ : Txn)).from_, ((⟨u4.proc, u4.state, u4.from_, (k8 : Int), u4.ops⟩ : Txn)).to, u2⟩ : Txn)).to, ((⟨((⟨u4.proc, u4.state, u4.from_, (k8 : Int), u4.ops⟩ : Txn)).proc, ((⟨u4.proc, u4.state, u4.from_, (k8 : Int), u4.ops⟩ : Txn)).state, ((⟨u4.proc, u4.state, u4.from_, (k8 : Int), u4.ops⟩ : Txn)).from_, ((⟨u4.proc, u4.state, u4.from_, (k8 : Int), u4.ops⟩ : Txn)).to, u2⟩ : Txn)).ops⟩ : Txn)) h0' (by constructor <;> decide : Kin.inI64 1) h2' h3' h4') ?_; clear H; intro w1 H; simp only [List.set_cons_succ, List.set_cons_zero] at H
            (try simp only [PT])
            obtain ⟨gd4, gl4⟩ := setI_drop (x := (⟨((⟨((⟨u4.proc, u4.state, u4.from_, (k8 : Int), u4.ops⟩ : Txn)).proc, ((⟨u4.proc, u4.state, u4.from_, (k8 : Int), u4.ops⟩ : Txn)).state, ((⟨u4.proc, u4.state, u4.from_, (k8 : Int), u4.ops⟩ : Txn)).from_, ((⟨u4.proc, u4.state, u4.from_, (k8 : Int), u4.ops⟩ : Txn)).to, u2⟩ : Txn)).proc, 1, ((⟨((⟨u4.proc, u4.state, u4.from_, (k8 : Int), u4.ops⟩ : Txn)).proc, ((⟨u4.proc, u4.state, u4.from_, (k8 : Int), u4.ops⟩ : Txn)).state, ((⟨u4.proc, u4.state, u4.from_, (k8 : Int), u4.ops⟩ : Txn)).from_, ((⟨u4.proc, u4.state, u4.from_, (k8 : Int), u4.ops⟩ : Txn)).to, u2⟩ : Txn)).from_, ((⟨((⟨u4.proc, u4.state, u4.from_, (k8 : Int), u4.ops⟩ : Txn)).proc, ((⟨u4.proc, u4.state, u4.from_, (k8 : Int), u4.ops⟩ : Txn)).state, ((⟨u4.proc, u4.state, u4.from_, (k8 : Int), u4.ops⟩ : Txn)).from_, ((⟨u4.proc, u4.state, u4.from_, (k8 : Int), u4.ops⟩ : Txn)).to, u2⟩ : Txn)).to, ((⟨((⟨u4.proc, u4.state, u4.from_, (k8 : Int), u4.ops⟩ : Txn)).proc, ((⟨u4.proc, u4.state, u4.from_, (k8 : Int), u4.ops⟩ : Txn)).state, ((⟨u4.proc, u4.state, u4.from_, (k8 : Int), u4.ops⟩ : Txn)).from_, ((⟨u4.proc, u4.state, u4.from_, (k8 : Int), u4.ops⟩ : Txn)).to, u2⟩ : Txn)).ops⟩ : Txn)) gk1 gl3
            refine list_end ?_
            refine block_norm ?_
            refine block_norm ?_
            refine then_norm ?_
            refine wp_region_lit ?_
            apply seq_op (V := .int .i64 (IntKind.i64.wrap ((k8 : Int) + 1))) rfl
            · exact fun _ h => O_bin rfl rfl rfl eqg_int r_add h
            (try simp only [PT])
            apply seq_op (V := .int .i64 (IntKind.i64.wrap ((k8 : Int) + 1))) rfl
            · exact fun _ h => O_mv rfl rfl h
            (try simp only [PT])
            refine list_end ?_
            refine then_norm ?_
            replace H := H.drop
            refine ⟨⟨⟨rfl, rfl, rfl, rfl, rfl, rfl, rfl, rfl, rfl, rfl, rfl, rfl, rfl, rfl, rfl, rfl, rfl, rfl, rfl⟩, rfl⟩, ⟨k8 + 1, _, s2, (setI (setI (setI y8_6 ((y8_p1 x8.proc).getD 0) (⟨u4.proc, u4.state, u4.from_, (k8 : Int), u4.ops⟩ : Txn)) ((y8_p1 x8.proc).getD 0) (⟨((⟨u4.proc, u4.state, u4.from_, (k8 : Int), u4.ops⟩ : Txn)).proc, ((⟨u4.proc, u4.state, u4.from_, (k8 : Int), u4.ops⟩ : Txn)).state, ((⟨u4.proc, u4.state, u4.from_, (k8 : Int), u4.ops⟩ : Txn)).from_, ((⟨u4.proc, u4.state, u4.from_, (k8 : Int), u4.ops⟩ : Txn)).to, u2⟩ : Txn)) ((y8_p1 x8.proc).getD 0) (⟨((⟨((⟨u4.proc, u4.state, u4.from_, (k8 : Int), u4.ops⟩ : Txn)).proc, ((⟨u4.proc, u4.state, u4.from_, (k8 : Int), u4.ops⟩ : Txn)).state, ((⟨u4.proc, u4.state, u4.from_, (k8 : Int), u4.ops⟩ : Txn)).from_, ((⟨u4.proc, u4.state, u4.from_, (k8 : Int), u4.ops⟩ : Txn)).to, u2⟩ : Txn)).proc, 1, ((⟨((⟨u4.proc, u4.state, u4.from_, (k8 : Int), u4.ops⟩ : Txn)).proc, ((⟨u4.proc, u4.state, u4.from_, (k8 : Int), u4.ops⟩ : Txn)).state, ((⟨u4.proc, u4.state, u4.from_, (k8 : Int), u4.ops⟩ : Txn)).from_, ((⟨u4.proc, u4.state, u4.from_, (k8 : Int), u4.ops⟩ : Txn)).to, u2⟩ : Txn)).from_, ((⟨((⟨u4.proc, u4.state, u4.from_, (k8 : Int), u4.ops⟩ : Txn)).proc, ((⟨u4.proc, u4.state, u4.from_, (k8 : Int), u4.ops⟩ : Txn)).state, ((⟨u4.proc, u4.state, u4.from_, (k8 : Int), u4.ops⟩ : Txn)).from_, ((⟨u4.proc, u4.state, u4.from_, (k8 : Int), u4.ops⟩ : Txn)).to, u2⟩ : Txn)).to, ((⟨((⟨u4.proc, u4.state, u4.from_, (k8 : Int), u4.ops⟩ : Txn)).proc, ((⟨u4.proc, u4.state, u4.from_, (k8 : Int), u4.ops⟩ : Txn)).state, ((⟨u4.proc, u4.state, u4.from_, (k8 : Int), u4.ops⟩ : Txn)).from_, ((⟨u4.proc, u4.state, u4.from_, (k8 : Int), u4.ops⟩ : Txn)).to, u2⟩ : Txn)).ops⟩ : Txn)), (some ⟨bokk1, 0, none⟩), c_y8_6, n_y8_6, y8_p1, hs8, hd8'', wrap_succ hl8 hn8, rfl, hq8, H⟩, ?_⟩
            exact meas_succ hl8 hn8
          · have hc4 := hc
            clear hc
            replace hq8 := ifF hc4 hq8
            refine wp_seq ?_
            refine wp_region_lit ?_
            apply seq_op (V := .bool (x8.kind == 3)) rfl
            · exact fun _ h => O_bin rfl rfl rfl eqg_int r_eql h
            (try simp only [PT])
            apply seq_op (V := .bool (x8.kind == 3)) rfl
            · exact fun _ h => O_as rfl rfl h
            (try simp only [PT])
            refine list_end ?_
            refine then_norm ?_
            refine wp_cond_split rfl (fun hc => ?_) (fun hc => ?_)
            · have hc5 := hc
              clear hc
              replace hq8 := ifT hc5 hq8
              refine wp_region_lit ?_
              apply seq_op (V := .pointer (some ⟨bokk1, kk1 * 5, none⟩)) rfl
              · exact fun _ h => O_mv rfl rfl h
              (try simp only [PT])
              apply seq_op (V := .pointer (some ⟨bokk1, kk1 * 5, none⟩)) rfl
              · exact fun _ h => O_nil rfl rfl h
              (try simp only [PT])
              apply seq_op (V := .pointer (some ⟨bokk1, kk1 * 5 + 1, none⟩)) rfl
              · exact fun _ h => O_fld rfl Tryd.underlying75 rfl (Tryd.sizeOf3 _) rfl h
              (try simp only [PT])
              refine OpG.list rfl ?_; refine G_ownsetF (d := kT) 1 _ _ _ rfl (Tryd.sizeOf3 _) (f := 1) (v := .int .i64 2) (x' := (⟨((⟨((⟨u4.proc, u4.state, u4.from_, (k8 : Int), u4.ops⟩ : Txn)).proc, ((⟨u4.proc, u4.state, u4.from_, (k8 : Int), u4.ops⟩ : Txn)).state, ((⟨u4.proc, u4.state, u4.from_, (k8 : Int), u4.ops⟩ : Txn)).from_, ((⟨u4.proc, u4.state, u4.from_, (k8 : Int), u4.ops⟩ : Txn)).to, u2⟩ : Txn)).proc, 2, ((⟨((⟨u4.proc, u4.state, u4.from_, (k8 : Int), u4.ops⟩ : Txn)).proc, ((⟨u4.proc, u4.state, u4.from_, (k8 : Int), u4.ops⟩ : Txn)).state, ((⟨u4.proc, u4.state, u4.from_, (k8 : Int), u4.ops⟩ : Txn)).from_, ((⟨u4.proc, u4.state, u4.from_, (k8 : Int), u4.ops⟩ : Txn)).to, u2⟩ : Txn)).from_, ((⟨((⟨u4.proc, u4.state, u4.from_, (k8 : Int), u4.ops⟩ : Txn)).proc, ((⟨u4.proc, u4.state, u4.from_, (k8 : Int), u4.ops⟩ : Txn)).state, ((⟨u4.proc, u4.state, u4.from_, (k8 : Int), u4.ops⟩ : Txn)).from_, ((⟨u4.proc, u4.state, u4.from_, (k8 : Int), u4.ops⟩ : Txn)).to, u2⟩ : Txn)).to, ((⟨((⟨u4.proc, u4.state, u4.from_, (k8 : Int), u4.ops⟩ : Txn)).proc, ((⟨u4.proc, u4.state, u4.from_, (k8 : Int), u4.ops⟩ : Txn)).state, ((⟨u4.proc, u4.state, u4.from_, (k8 : Int), u4.ops⟩ : Txn)).from_, ((⟨u4.proc, u4.state, u4.from_, (k8 : Int), u4.ops⟩ : Txn)).to, u2⟩ : Txn)).ops⟩ : Txn)) rfl rfl (by decide) rfl H rfl gk1 gd3 rfl (fun cs h => by obtain ⟨_, _, rfl, h0', -, h2', h3', h4'⟩ := kT_op h; exact kT_mk' (s := s2) (x := (⟨((⟨((⟨u4.proc, u4.state, u4.from_, (k8 : Int), u4.ops⟩ : Txn)).proc, ((⟨u4.proc, u4.state, u4.from_, (k8 : Int), u4.ops⟩ : Txn)).state, ((⟨u4.proc, u4.state, u4.from_, (k8 : Int), u4.ops⟩ : Txn)).from_, ((⟨u4.proc, u4.state, u4.from_, (k8 : Int), u4.ops⟩ : Txn)).to, u2⟩ : Txn)).proc, 2, ((⟨((⟨u4.proc, u4.state, u4.from_, (k8 : Int), u4.ops⟩ : Txn)).proc, ((⟨u4.proc, u4.state, u4.from_, (k8 : Int), u4.ops⟩ : Txn)).state, ((⟨u4.proc, u4.state, u4.from_, (k8 : Int), u4.ops⟩ : Txn)).from_, ((⟨u4.proc, u4.state, u4.from_, (k8 : Int), u4.ops⟩ : Txn)).to, u2⟩ : Txn)).from_, ((⟨((⟨u4.proc, u4.state, u4.from_, (k8 : Int), u4.ops⟩ : Txn)).proc, ((⟨u4.proc, u4.state, u4.from_, (k8 : Int), u4.ops⟩ : Txn)).state, ((⟨u4.proc, u4.state, u4.from_, (k8 : Int), u4.ops⟩ : Txn)).from_, ((⟨u4.proc, u4.state, u4.from_, (k8 : Int), u4.ops⟩ : Txn)).to, u2⟩ : Txn)).to, ((⟨((⟨u4.proc, u4.state, u4.from_, (k8 : Int), u4.ops⟩ : Txn)).proc, ((⟨u4.proc, u4.state, u4.from_, (k8 : Int), u4.ops⟩ : Txn)).state, ((⟨u4.proc, u4.state, u4.from_, (k8 : Int), u4.ops⟩ : Txn)).from_, ((⟨u4.proc, u4.state, u4.from_, (k8 : Int), u4.ops⟩ : Txn)).to, u2⟩ : Txn)).ops⟩ : Txn)) h0' (by constructor <;> decide : Kin.inI64 2) h2' h3' h4') ?_; clear H; intro w1 H; simp only [List.set_cons_succ, List.set_cons_zero] at H
              (try simp only [PT])
              obtain ⟨gd5, gl5⟩ := setI_drop (x := (⟨((⟨((⟨u4.proc, u4.state, u4.from_, (k8 : Int), u4.ops⟩ : Txn)).proc, ((⟨u4.proc, u4.state, u4.from_, (k8 : Int), u4.ops⟩ : Txn)).state, ((⟨u4.proc, u4.state, u4.from_, (k8 : Int), u4.ops⟩ : Txn)).from_, ((⟨u4.proc, u4.state, u4.from_, (k8 : Int), u4.ops⟩ : Txn)).to, u2⟩ : Txn)).proc, 2, ((⟨((⟨u4.proc, u4.state, u4.from_, (k8 : Int), u4.ops⟩ : Txn)).proc, ((⟨u4.proc, u4.state, u4.from_, (k8 : Int), u4.ops⟩ : Txn)).state, ((⟨u4.proc, u4.state, u4.from_, (k8 : Int), u4.ops⟩ : Txn)).from_, ((⟨u4.proc, u4.state, u4.from_, (k8 : Int), u4.ops⟩ : Txn)).to, u2⟩ : Txn)).from_, ((⟨((⟨u4.proc, u4.state, u4.from_, (k8 : Int), u4.ops⟩ : Txn)).proc, ((⟨u4.proc, u4.state, u4.from_, (k8 : Int), u4.ops⟩ : Txn)).state, ((⟨u4.proc, u4.state, u4.from_, (k8 : Int), u4.ops⟩ : Txn)).from_, ((⟨u4.proc, u4.state, u4.from_, (k8 : Int), u4.ops⟩ : Txn)).to, u2⟩ : Txn)).to, ((⟨((⟨u4.proc, u4.state, u4.from_, (k8 : Int), u4.ops⟩ : Txn)).proc, ((⟨u4.proc, u4.state, u4.from_, (k8 : Int), u4.ops⟩ : Txn)).state, ((⟨u4.proc, u4.state, u4.from_, (k8 : Int), u4.ops⟩ : Txn)).from_, ((⟨u4.proc, u4.state, u4.from_, (k8 : Int), u4.ops⟩ : Txn)).to, u2⟩ : Txn)).ops⟩ : Txn)) gk1 gl3
              refine list_end ?_
              refine block_norm ?_
              refine block_norm ?_
              refine then_norm ?_
              refine wp_region_lit ?_
              apply seq_op (V := .int .i64 (IntKind.i64.wrap ((k8 : Int) + 1))) rfl
              · exact fun _ h => O_bin rfl rfl rfl eqg_int r_add h
              (try simp only [PT])
              apply seq_op (V := .int .i64 (IntKind.i64.wrap ((k8 : Int) + 1))) rfl
              · exact fun _ h => O_mv rfl rfl h
              (try simp only [PT])
              refine list_end ?_
              refine then_norm ?_
              replace H := H.drop
              refine ⟨⟨⟨rfl, rfl, rfl, rfl, rfl, rfl, rfl, rfl, rfl, rfl, rfl, rfl, rfl, rfl, rfl, rfl, rfl, rfl, rfl⟩, rfl⟩, ⟨k8 + 1, _, s2, (setI (setI (setI y8_6 ((y8_p1 x8.proc).getD 0) (⟨u4.proc, u4.state, u4.from_, (k8 : Int), u4.ops⟩ : Txn)) ((y8_p1 x8.proc).getD 0) (⟨((⟨u4.proc, u4.state, u4.from_, (k8 : Int), u4.ops⟩ : Txn)).proc, ((⟨u4.proc, u4.state, u4.from_, (k8 : Int), u4.ops⟩ : Txn)).state, ((⟨u4.proc, u4.state, u4.from_, (k8 : Int), u4.ops⟩ : Txn)).from_, ((⟨u4.proc, u4.state, u4.from_, (k8 : Int), u4.ops⟩ : Txn)).to, u2⟩ : Txn)) ((y8_p1 x8.proc).getD 0) (⟨((⟨((⟨u4.proc, u4.state, u4.from_, (k8 : Int), u4.ops⟩ : Txn)).proc, ((⟨u4.proc, u4.state, u4.from_, (k8 : Int), u4.ops⟩ : Txn)).state, ((⟨u4.proc, u4.state, u4.from_, (k8 : Int), u4.ops⟩ : Txn)).from_, ((⟨u4.proc, u4.state, u4.from_, (k8 : Int), u4.ops⟩ : Txn)).to, u2⟩ : Txn)).proc, 2, ((⟨((⟨u4.proc, u4.state, u4.from_, (k8 : Int), u4.ops⟩ : Txn)).proc, ((⟨u4.proc, u4.state, u4.from_, (k8 : Int), u4.ops⟩ : Txn)).state, ((⟨u4.proc, u4.state, u4.from_, (k8 : Int), u4.ops⟩ : Txn)).from_, ((⟨u4.proc, u4.state, u4.from_, (k8 : Int), u4.ops⟩ : Txn)).to, u2⟩ : Txn)).from_, ((⟨((⟨u4.proc, u4.state, u4.from_, (k8 : Int), u4.ops⟩ : Txn)).proc, ((⟨u4.proc, u4.state, u4.from_, (k8 : Int), u4.ops⟩ : Txn)).state, ((⟨u4.proc, u4.state, u4.from_, (k8 : Int), u4.ops⟩ : Txn)).from_, ((⟨u4.proc, u4.state, u4.from_, (k8 : Int), u4.ops⟩ : Txn)).to, u2⟩ : Txn)).to, ((⟨((⟨u4.proc, u4.state, u4.from_, (k8 : Int), u4.ops⟩ : Txn)).proc, ((⟨u4.proc, u4.state, u4.from_, (k8 : Int), u4.ops⟩ : Txn)).state, ((⟨u4.proc, u4.state, u4.from_, (k8 : Int), u4.ops⟩ : Txn)).from_, ((⟨u4.proc, u4.state, u4.from_, (k8 : Int), u4.ops⟩ : Txn)).to, u2⟩ : Txn)).ops⟩ : Txn)), (some ⟨bokk1, 0, none⟩), c_y8_6, n_y8_6, y8_p1, hs8, hd8'', wrap_succ hl8 hn8, rfl, hq8, H⟩, ?_⟩
              exact meas_succ hl8 hn8
            · have hc5 := hc
              clear hc
              replace hq8 := ifF hc5 hq8
              refine wp_skip ?_
              refine block_norm ?_
              refine block_norm ?_
              refine then_norm ?_
              refine wp_region_lit ?_
              apply seq_op (V := .int .i64 (IntKind.i64.wrap ((k8 : Int) + 1))) rfl
              · exact fun _ h => O_bin rfl rfl rfl eqg_int r_add h
              (try simp only [PT])
              apply seq_op (V := .int .i64 (IntKind.i64.wrap ((k8 : Int) + 1))) rfl
              · exact fun _ h => O_mv rfl rfl h
              (try simp only [PT])
              refine list_end ?_
              refine then_norm ?_
              replace H := H.drop
              refine ⟨⟨⟨rfl, rfl, rfl, rfl, rfl, rfl, rfl, rfl, rfl, rfl, rfl, rfl, rfl, rfl, rfl, rfl, rfl, rfl, rfl⟩, rfl⟩, ⟨k8 + 1, _, s2, (setI (setI y8_6 ((y8_p1 x8.proc).getD 0) (⟨u4.proc, u4.state, u4.from_, (k8 : Int), u4.ops⟩ : Txn)) ((y8_p1 x8.proc).getD 0) (⟨((⟨u4.proc, u4.state, u4.from_, (k8 : Int), u4.ops⟩ : Txn)).proc, ((⟨u4.proc, u4.state, u4.from_, (k8 : Int), u4.ops⟩ : Txn)).state, ((⟨u4.proc, u4.state, u4.from_, (k8 : Int), u4.ops⟩ : Txn)).from_, ((⟨u4.proc, u4.state, u4.from_, (k8 : Int), u4.ops⟩ : Txn)).to, u2⟩ : Txn)), (some ⟨bokk1, 0, none⟩), c_y8_6, n_y8_6, y8_p1, hs8, hd8'', wrap_succ hl8 hn8, rfl, hq8, H⟩, ?_⟩
              exact meas_succ hl8 hn8
      · have hc2 := hc
        clear hc
        obtain rfl := rng_f hd8 hc2
        rw [pair_Txns_l8] at hq8
        refine wp_exit ?_
        refine then_exit ?_
        refine then_exit ?_
        have hq8 := Option.some.inj hq8
        subst hq8
        (try dsimp only at hm)
        refine block_exit ?_
        refine then_norm ?_
        refine wp_seq ?_
        refine wp_region_lit ?_
        apply seq_op (V := .slice A_y8_6 n_y8_6 c_y8_6) rfl
        · exact fun _ h => O_mv rfl rfl h
        (try simp only [PT])
        apply seq_op (V := .slice A_y8_6 n_y8_6 c_y8_6) rfl
        · exact fun _ h => O_as rfl rfl h
        (try simp only [PT])
        apply seq_op (V := .nilIface) rfl
        · exact fun _ h => O_as rfl rfl h
        (try simp only [PT])
        refine list_end ?_
        refine then_norm ?_
        refine wp_ret ?_
        have hm := Option.some.inj hm
        subst hm
        replace H := H.dropAt 2 rfl; simp only [List.eraseIdx_cons_succ, List.eraseIdx_cons_zero] at H
        replace H := H.dropAt 1 rfl; simp only [List.eraseIdx_cons_succ, List.eraseIdx_cons_zero] at H
        exact ret2 rfl (rv_tmp rfl) (rv_tmp rfl) rfl ⟨A_y8_6, c_y8_6, n_y8_6, sL8, rfl, hS, H⟩
def assayerref01_letter_f (a0 : Int) : Bool := ((decide (a0 ≥ 97)) && (decide (a0 ≤ 122)))

set_option maxHeartbeats 4000000 in
theorem assayerref01_letter_w {E : World} {s : SH} {L : List HP} {w : World} {a0 : Int} (H : Holds E s (L) w) :
    Calls Tryd.prog 192 #[.int .u8 a0] w fun e w' => e = .returned (.bool (assayerref01_letter_f a0)) ∧ Holds E s (L) w' := by
  obtain ⟨R, hm⟩ : ∃ R, assayerref01_letter_f a0 = R := ⟨_, rfl⟩
  (try rw [hm])
  unfold assayerref01_letter_f at hm
  go_enter Tryd.func192, Tryd.ntmps192
  refine wp_seq ?_
  refine wp_region_lit ?_
  apply seq_op (V := .bool false) rfl
  · exact fun _ h => O_as rfl rfl h
  (try simp only [PT])
  refine list_end ?_
  refine then_norm ?_
  refine wp_seq ?_
  refine wp_region_lit ?_
  apply seq_op (V := .int .u8 a0) rfl
  · exact fun _ h => O_mv rfl rfl h
  (try simp only [PT])
  apply seq_op (V := .bool (decide (a0 ≥ 97))) rfl
  · exact fun _ h => O_bin rfl rfl rfl eqg_int r_geq h
  (try simp only [PT])
  apply seq_op (V := .bool (decide (a0 ≥ 97))) rfl
  · exact fun _ h => O_mv rfl rfl h
  (try simp only [PT])
  refine seq_opg (c := (decide (a0 ≥ 97))) (V := .int .u8 a0) (by first | exact wanted_t rfl rfl rfl | exact wanted_vt rfl rfl rfl) ?_ ?_
  · intro hc Φ hΦ; refine O_mv rfl rfl ?_; exact hΦ
  (try simp only [PT])
  refine seq_opg (c := (decide (a0 ≥ 97))) (V := .bool (decide (a0 ≤ 122))) (by first | exact wanted_t rfl rfl rfl | exact wanted_vt rfl rfl rfl) ?_ ?_
  · intro hc Φ hΦ; (repeat (first | rw [vg_of hc] | rw [vg_of (and_l hc)] | rw [vg_of (and_l (and_l hc))] | rw [vg_of (and_l (and_l (and_l hc)))] | rw [vg_and hc])); refine O_bin rfl rfl rfl eqg_int r_leq ?_; exact hΦ
  (try simp only [PT])
  apply seq_op (V := .bool ((decide (a0 ≥ 97)) && (decide (a0 ≤ 122)))) rfl
  · exact fun _ h => G_and _ _ _ rfl rfl rfl rfl h
  (try simp only [PT])
  apply seq_op (V := .bool ((decide (a0 ≥ 97)) && (decide (a0 ≤ 122)))) rfl
  · exact fun _ h => O_as rfl rfl h
  (try simp only [PT])
  refine list_end ?_
  refine then_norm ?_
  refine wp_ret ?_
  subst hm
  exact ret1 rfl (rv_tmp rfl) rfl ⟨rfl, H⟩
def assayerref01_digit_f (a0 : Int) : Bool := ((decide (a0 ≥ 48)) && (decide (a0 ≤ 57)))

set_option maxHeartbeats 4000000 in
theorem assayerref01_digit_w {E : World} {s : SH} {L : List HP} {w : World} {a0 : Int} (H : Holds E s (L) w) :
    Calls Tryd.prog 193 #[.int .u8 a0] w fun e w' => e = .returned (.bool (assayerref01_digit_f a0)) ∧ Holds E s (L) w' := by
  obtain ⟨R, hm⟩ : ∃ R, assayerref01_digit_f a0 = R := ⟨_, rfl⟩
  (try rw [hm])
  unfold assayerref01_digit_f at hm
  go_enter Tryd.func193, Tryd.ntmps193
  refine wp_seq ?_
  refine wp_region_lit ?_
  apply seq_op (V := .bool false) rfl
  · exact fun _ h => O_as rfl rfl h
  (try simp only [PT])
  refine list_end ?_
  refine then_norm ?_
  refine wp_seq ?_
  refine wp_region_lit ?_
  apply seq_op (V := .int .u8 a0) rfl
  · exact fun _ h => O_mv rfl rfl h
  (try simp only [PT])
  apply seq_op (V := .bool (decide (a0 ≥ 48))) rfl
  · exact fun _ h => O_bin rfl rfl rfl eqg_int r_geq h
  (try simp only [PT])
  apply seq_op (V := .bool (decide (a0 ≥ 48))) rfl
  · exact fun _ h => O_mv rfl rfl h
  (try simp only [PT])
  refine seq_opg (c := (decide (a0 ≥ 48))) (V := .int .u8 a0) (by first | exact wanted_t rfl rfl rfl | exact wanted_vt rfl rfl rfl) ?_ ?_
  · intro hc Φ hΦ; refine O_mv rfl rfl ?_; exact hΦ
  (try simp only [PT])
  refine seq_opg (c := (decide (a0 ≥ 48))) (V := .bool (decide (a0 ≤ 57))) (by first | exact wanted_t rfl rfl rfl | exact wanted_vt rfl rfl rfl) ?_ ?_
  · intro hc Φ hΦ; (repeat (first | rw [vg_of hc] | rw [vg_of (and_l hc)] | rw [vg_of (and_l (and_l hc))] | rw [vg_of (and_l (and_l (and_l hc)))] | rw [vg_and hc])); refine O_bin rfl rfl rfl eqg_int r_leq ?_; exact hΦ
  (try simp only [PT])
  apply seq_op (V := .bool ((decide (a0 ≥ 48)) && (decide (a0 ≤ 57)))) rfl
  · exact fun _ h => G_and _ _ _ rfl rfl rfl rfl h
  (try simp only [PT])
  apply seq_op (V := .bool ((decide (a0 ≥ 48)) && (decide (a0 ≤ 57)))) rfl
  · exact fun _ h => O_as rfl rfl h
  (try simp only [PT])
  refine list_end ?_
  refine then_norm ?_
  refine wp_ret ?_
  subst hm
  exact ret1 rfl (rv_tmp rfl) rfl ⟨rfl, H⟩
def assayerref01_IsWord_l4 (a0 : ByteArray) : Nat → Int → Option ((Bool ⊕ Unit))
  | 0, _ => none
  | r4 + 1, y4_3 => if (decide (y4_3 < (a0.size : Int))) = true then ((btI a0 y4_3).bind fun u2 => if (!(assayerref01_letter_f u2)) = true then (if (!(assayerref01_digit_f u2)) = true then (some (.inl false)) else (assayerref01_IsWord_l4 a0 r4 (IntKind.i64.wrap (y4_3 + 1)))) else (assayerref01_IsWord_l4 a0 r4 (IntKind.i64.wrap (y4_3 + 1)))) else (some (.inr ()))

def assayerref01_IsWord_f (fuel : Nat) (a0 : ByteArray) : Option Bool := if (a0.toList == (ByteArray.mk #[]).toList) = true then (some false) else ((btI a0 0).bind fun u1 => if (!(assayerref01_letter_f u1)) = true then (some false) else ((assayerref01_IsWord_l4 a0 fuel 0).bind fun | .inl z4_r => (some z4_r) | .inr () => (some true)))

set_option maxHeartbeats 4000000 in
theorem assayerref01_IsWord_w {E : World} {s : SH} {L : List HP} {w : World} {fuel : Nat} {a0 : ByteArray} {R : Bool} (hm : assayerref01_IsWord_f fuel a0 = some R) (H : Holds E s (L) w) :
    Calls Tryd.prog 176 #[.string a0] w fun e w' => e = .returned (.bool R) ∧ Holds E s (L) w' := by
  unfold assayerref01_IsWord_f at hm
  go_enter Tryd.func176, Tryd.ntmps176
  refine wp_seq ?_
  refine wp_region_lit ?_
  apply seq_op (V := .bool false) rfl
  · exact fun _ h => O_as rfl rfl h
  (try simp only [PT])
  refine list_end ?_
  refine then_norm ?_
  refine wp_seq ?_
  refine wp_seq ?_
  rcases Bool.eq_false_or_eq_true (a0.toList == (ByteArray.mk #[]).toList) with hg1 | hg1
  · replace hm := ifT hg1 hm
    refine wp_region_lit ?_
    apply seq_op (V := .string a0) rfl
    · exact fun _ h => O_mv rfl rfl h
    (try simp only [PT])
    apply seq_op (V := .bool (a0.toList == (ByteArray.mk #[]).toList)) rfl
    · exact fun _ h => O_bin rfl rfl rfl eqg_str r_seq h
    (try simp only [PT])
    apply seq_op (V := .bool (a0.toList == (ByteArray.mk #[]).toList)) rfl
    · exact fun _ h => O_mv rfl rfl h
    (try simp only [PT])
    refine seq_skip ((wanted_f rfl rfl rfl).trans (congrArg not hg1)) ?_
    (try simp only [PT])
    refine seq_skip ((wanted_f rfl rfl rfl).trans (congrArg not hg1)) ?_
    (try simp only [PT])
    refine seq_skip ((wanted_f rfl rfl rfl).trans (congrArg not hg1)) ?_
    (try simp only [PT])
    refine seq_skip ((wanted_f rfl rfl rfl).trans (congrArg not hg1)) ?_
    (try simp only [PT])
    apply seq_op (V := .bool true) rfl
    · exact fun _ h => O_pickT rfl rfl hg1 rfl h
    (try simp only [PT])
    refine list_end ?_
    refine then_norm ?_
    refine wp_cond_true rfl ?_
    refine wp_seq ?_
    refine wp_region_lit ?_
    apply seq_op (V := .bool false) rfl
    · exact fun _ h => O_as rfl rfl h
    (try simp only [PT])
    refine list_end ?_
    refine then_norm ?_
    refine wp_ret ?_
    refine then_ret ?_
    have hm := Option.some.inj hm
    subst hm
    exact ret1 rfl (rv_tmp rfl) rfl ⟨rfl, H⟩
  · replace hm := ifF hg1 hm
    obtain ⟨u1, gx1, hm⟩ := bs hm
    obtain ⟨kk1, gk1, gl1, gd1⟩ := btI_some gx1
    refine wp_region_lit ?_
    apply seq_op (V := .string a0) rfl
    · exact fun _ h => O_mv rfl rfl h
    (try simp only [PT])
    apply seq_op (V := .bool (a0.toList == (ByteArray.mk #[]).toList)) rfl
    · exact fun _ h => O_bin rfl rfl rfl eqg_str r_seq h
    (try simp only [PT])
    apply seq_op (V := .bool (a0.toList == (ByteArray.mk #[]).toList)) rfl
    · exact fun _ h => O_mv rfl rfl h
    (try simp only [PT])
    refine seq_opw (V := .string a0) ((wanted_f rfl rfl rfl).trans (congrArg not hg1)) ?_ ?_
    · exact fun _ h => O_mv rfl rfl h
    (try simp only [PT])
    refine seq_opw (V := .int .u8 u1) ((wanted_f rfl rfl rfl).trans (congrArg not hg1)) ?_ ?_
    · exact fun _ h => O_sidx rfl Tryd.underlying9 rfl rfl gk1 gl1 gd1 h
    (try simp only [PT])
    refine seq_callw ((wanted_f rfl rfl rfl).trans (congrArg not hg1)) (fun Φ hΦ => by refine O_call1 rfl Tryd.func192 rfl rfl rfl hΦ) (assayerref01_letter_w (a0 := u1) (H := H)) ?_
    clear H
    rintro e w1 ⟨rfl, H⟩; refine ⟨_, rfl, ?_⟩
    (try simp only [PT])
    refine seq_opw (V := .bool (!(assayerref01_letter_f u1))) ((wanted_f rfl rfl rfl).trans (congrArg not hg1)) ?_ ?_
    · exact fun _ h => O_not rfl rfl h
    (try simp only [PT])
    apply seq_op (V := .bool (!(assayerref01_letter_f u1))) rfl
    · exact fun _ h => O_pickF rfl rfl hg1 rfl h
    (try simp only [PT])
    refine list_end ?_
    refine then_norm ?_
    refine wp_cond_split rfl (fun hc => ?_) (fun hc => ?_)
    · have hc1 := hc
      clear hc
      replace hm := ifT hc1 hm
      refine wp_seq ?_
      refine wp_region_lit ?_
      apply seq_op (V := .bool false) rfl
      · exact fun _ h => O_as rfl rfl h
      (try simp only [PT])
      refine list_end ?_
      refine then_norm ?_
      refine wp_ret ?_
      refine then_ret ?_
      have hm := Option.some.inj hm
      subst hm
      exact ret1 rfl (rv_tmp rfl) rfl ⟨rfl, H⟩
    · have hc1 := hc
      clear hc
      replace hm := ifF hc1 hm
      refine wp_skip ?_
      refine then_norm ?_
      refine wp_seq ?_
      refine wp_seq ?_
      refine wp_region_lit ?_
      apply seq_op (V := .int .i64 0) rfl
      · exact fun _ h => O_as rfl rfl h
      (try simp only [PT])
      refine list_end ?_
      refine then_norm ?_
      refine wp_block ?_
      obtain ⟨R4, hq4, hm⟩ := bs hm
      refine wp_loopN [none, none, some 2, some 3, none, none, none, none, none, none, none, none, some 12, some 13, some 14, some 15, some 16, some 17, some 18, some 19, some 20, some 21, some 22, some 23, some 24, some 25, some 26, some 27, some 28, some 29] rfl (by simp) (fun r4 f w => ∃ (y4_3 : Int), f 3 = .int .i64 y4_3 ∧ Kin.inI64 y4_3 ∧ assayerref01_IsWord_l4 a0 r4 y4_3 = some R4 ∧ Holds E s (L) w) ?_ ?_
      · exact ⟨_, 0, rfl, (by constructor <;> decide : Kin.inI64 0), hq4, H⟩
      · clear H
        intro r4 f w hI
        obtain ⟨y4_3, hf3, hr_y4_3, hq4', H⟩ := hI
        clear hq4; have hq4 := hq4'; clear hq4'
        simp only [ovm, mixM]
        simp only [hf3]; clear hf3
        cases r4 with
        | zero => cases hq4
        | succ r4 =>
          rw [assayerref01_IsWord_l4] at hq4
          refine wp_seq ?_
          refine wp_seq ?_
          refine wp_region_lit ?_
          apply seq_op (V := .int .i64 y4_3) rfl
          · exact fun _ h => O_mv rfl rfl h
          (try simp only [PT])
          apply seq_op (V := .string a0) rfl
          · exact fun _ h => O_mv rfl rfl h
          (try simp only [PT])
          apply seq_op (V := .int .i64 (a0.size : Int)) rfl
          · exact fun _ h => O_slen rfl Tryd.underlying9 rfl h
          (try simp only [PT])
          apply seq_op (V := .bool (decide (y4_3 < (a0.size : Int)))) rfl
          · exact fun _ h => O_bin rfl rfl rfl eqg_int r_lss h
          (try simp only [PT])
          refine list_end ?_
          refine then_norm ?_
          refine wp_cond_split rfl (fun hc => ?_) (fun hc => ?_)
          · have hc2 := hc
            clear hc
            replace hq4 := ifT hc2 hq4
            refine wp_skip ?_
            refine then_norm ?_
            refine wp_seq ?_
            refine wp_block ?_
            refine wp_seq ?_
            obtain ⟨u2, gx2, hq4⟩ := bs hq4
            obtain ⟨kk2, gk2, gl2, gd2⟩ := btI_some gx2
            rcases Bool.eq_false_or_eq_true (!(assayerref01_letter_f u2)) with hg2 | hg2
            · replace hq4 := ifT hg2 hq4
              obtain ⟨kk3, gk3, gl3, gd3⟩ := btI_some gx2
              obtain ⟨kk4, gk4, gl4, gd4⟩ := btI_some gx2
              refine wp_region_lit ?_
              apply seq_op (V := .string a0) rfl
              · exact fun _ h => O_mv rfl rfl h
              (try simp only [PT])
              apply seq_op (V := .int .i64 y4_3) rfl
              · exact fun _ h => O_mv rfl rfl h
              (try simp only [PT])
              apply seq_op (V := .int .u8 u2) rfl
              · exact fun _ h => O_sidx rfl Tryd.underlying9 rfl rfl gk3 gl3 gd3 h
              (try simp only [PT])
              refine seq_call rfl (fun Φ hΦ => by refine O_call1 rfl Tryd.func192 rfl rfl rfl hΦ) (assayerref01_letter_w (a0 := u2) (H := H)) ?_
              clear H
              rintro e w1 ⟨rfl, H⟩; refine ⟨_, rfl, ?_⟩
              (try simp only [PT])
              apply seq_op (V := .bool (!(assayerref01_letter_f u2))) rfl
              · exact fun _ h => O_not rfl rfl h
              (try simp only [PT])
              apply seq_op (V := .bool (!(assayerref01_letter_f u2))) rfl
              · exact fun _ h => O_mv rfl rfl h
              (try simp only [PT])
              refine seq_opw (V := .string a0) ((wanted_t rfl rfl rfl).trans hg2) ?_ ?_
              · exact fun _ h => O_mv rfl rfl h
              (try simp only [PT])
              refine seq_opw (V := .int .i64 y4_3) ((wanted_t rfl rfl rfl).trans hg2) ?_ ?_
              · exact fun _ h => O_mv rfl rfl h
              (try simp only [PT])
              refine seq_opw (V := .int .u8 u2) ((wanted_t rfl rfl rfl).trans hg2) ?_ ?_
              · exact fun _ h => O_sidx rfl Tryd.underlying9 rfl rfl gk4 gl4 gd4 h
              (try simp only [PT])
              refine seq_callw ((wanted_t rfl rfl rfl).trans hg2) (fun Φ hΦ => by refine O_call1 rfl Tryd.func193 rfl rfl rfl hΦ) (assayerref01_digit_w (a0 := u2) (H := H)) ?_
              clear H
              rintro e w1 ⟨rfl, H⟩; refine ⟨_, rfl, ?_⟩
              (try simp only [PT])
              refine seq_opw (V := .bool (!(assayerref01_digit_f u2))) ((wanted_t rfl rfl rfl).trans hg2) ?_ ?_
              · exact fun _ h => O_not rfl rfl h
              (try simp only [PT])
              apply seq_op (V := .bool (!(assayerref01_digit_f u2))) rfl
              · exact fun _ h => O_pickT rfl rfl hg2 rfl h
              (try simp only [PT])
              refine list_end ?_
              refine then_norm ?_
              refine wp_cond_split rfl (fun hc => ?_) (fun hc => ?_)
              · have hc3 := hc
                clear hc
                replace hq4 := ifT hc3 hq4
                refine wp_seq ?_
                refine wp_region_lit ?_
                apply seq_op (V := .bool false) rfl
                · exact fun _ h => O_as rfl rfl h
                (try simp only [PT])
                refine list_end ?_
                refine then_norm ?_
                refine wp_ret ?_
                refine block_ret ?_
                refine then_ret ?_
                refine then_ret ?_
                refine block_ret ?_
                refine then_ret ?_
                have hq4 := Option.some.inj hq4
                subst hq4
                (try dsimp only at hm)
                have hm := Option.some.inj hm
                subst hm
                exact ret1 rfl (rv_tmp rfl) rfl ⟨rfl, H⟩
              · have hc3 := hc
                clear hc
                replace hq4 := ifF hc3 hq4
                refine wp_skip ?_
                refine block_norm ?_
                refine then_norm ?_
                refine wp_region_lit ?_
                apply seq_op (V := .int .i64 y4_3) rfl
                · exact fun _ h => O_mv rfl rfl h
                (try simp only [PT])
                apply seq_op (V := .int .i64 (IntKind.i64.wrap (y4_3 + 1))) rfl
                · exact fun _ h => O_bin rfl rfl rfl eqg_int r_add h
                (try simp only [PT])
                apply seq_op (V := .int .i64 (IntKind.i64.wrap (y4_3 + 1))) rfl
                · exact fun _ h => O_as rfl rfl h
                (try simp only [PT])
                refine list_end ?_
                refine then_norm ?_
                exact ⟨⟨⟨rfl, rfl, rfl, rfl, rfl, rfl, rfl, rfl, rfl, rfl, rfl⟩, rfl⟩, r4, Nat.lt_succ_self _, ⟨(IntKind.i64.wrap (y4_3 + 1)), rfl, (i64_i _), hq4, H⟩⟩
            · replace hq4 := ifF hg2 hq4
              obtain ⟨kk3, gk3, gl3, gd3⟩ := btI_some gx2
              refine wp_region_lit ?_
              apply seq_op (V := .string a0) rfl
              · exact fun _ h => O_mv rfl rfl h
              (try simp only [PT])
              apply seq_op (V := .int .i64 y4_3) rfl
              · exact fun _ h => O_mv rfl rfl h
              (try simp only [PT])
              apply seq_op (V := .int .u8 u2) rfl
              · exact fun _ h => O_sidx rfl Tryd.underlying9 rfl rfl gk3 gl3 gd3 h
              (try simp only [PT])
              refine seq_call rfl (fun Φ hΦ => by refine O_call1 rfl Tryd.func192 rfl rfl rfl hΦ) (assayerref01_letter_w (a0 := u2) (H := H)) ?_
              clear H
              rintro e w1 ⟨rfl, H⟩; refine ⟨_, rfl, ?_⟩
              (try simp only [PT])
              apply seq_op (V := .bool (!(assayerref01_letter_f u2))) rfl
              · exact fun _ h => O_not rfl rfl h
              (try simp only [PT])
              apply seq_op (V := .bool (!(assayerref01_letter_f u2))) rfl
              · exact fun _ h => O_mv rfl rfl h
              (try simp only [PT])
              refine seq_skip ((wanted_t rfl rfl rfl).trans hg2) ?_
              (try simp only [PT])
              refine seq_skip ((wanted_t rfl rfl rfl).trans hg2) ?_
              (try simp only [PT])
              refine seq_skip ((wanted_t rfl rfl rfl).trans hg2) ?_
              (try simp only [PT])
              refine seq_skip ((wanted_t rfl rfl rfl).trans hg2) ?_
              (try simp only [PT])
              refine seq_skip ((wanted_t rfl rfl rfl).trans hg2) ?_
              (try simp only [PT])
              apply seq_op (V := .bool false) rfl
              · exact fun _ h => O_pickF rfl rfl hg2 rfl h
              (try simp only [PT])
              refine list_end ?_
              refine then_norm ?_
              refine wp_cond_false rfl ?_
              refine wp_skip ?_
              refine block_norm ?_
              refine then_norm ?_
              refine wp_region_lit ?_
              apply seq_op (V := .int .i64 y4_3) rfl
              · exact fun _ h => O_mv rfl rfl h
              (try simp only [PT])
              apply seq_op (V := .int .i64 (IntKind.i64.wrap (y4_3 + 1))) rfl
              · exact fun _ h => O_bin rfl rfl rfl eqg_int r_add h
              (try simp only [PT])
              apply seq_op (V := .int .i64 (IntKind.i64.wrap (y4_3 + 1))) rfl
              · exact fun _ h => O_as rfl rfl h
              (try simp only [PT])
              refine list_end ?_
              refine then_norm ?_
              exact ⟨⟨⟨rfl, rfl, rfl, rfl, rfl, rfl, rfl, rfl, rfl, rfl, rfl⟩, rfl⟩, r4, Nat.lt_succ_self _, ⟨(IntKind.i64.wrap (y4_3 + 1)), rfl, (i64_i _), hq4, H⟩⟩
          · have hc2 := hc
            clear hc
            replace hq4 := ifF hc2 hq4
            refine wp_exit ?_
            refine then_exit ?_
            refine then_exit ?_
            have hq4 := Option.some.inj hq4
            subst hq4
            (try dsimp only at hm)
            refine block_exit ?_
            refine then_norm ?_
            refine wp_seq ?_
            refine wp_region_lit ?_
            apply seq_op (V := .bool true) rfl
            · exact fun _ h => O_as rfl rfl h
            (try simp only [PT])
            refine list_end ?_
            refine then_norm ?_
            refine wp_ret ?_
            have hm := Option.some.inj hm
            subst hm
            exact ret1 rfl (rv_tmp rfl) rfl ⟨rfl, H⟩
def assayerref02_IsKey_f (fuel : Nat) (a0 : ByteArray) : Option Bool := (assayerref01_IsWord_f fuel a0).bind fun u1 => some (u1 && (decide ((a0.size : Int) ≤ 6)))

set_option maxHeartbeats 4000000 in
theorem assayerref02_IsKey_w {E : World} {s : SH} {L : List HP} {w : World} {fuel : Nat} {a0 : ByteArray} {R : Bool} (hm : assayerref02_IsKey_f fuel a0 = some R) (H : Holds E s (L) w) :
    Calls Tryd.prog 163 #[.string a0] w fun e w' => e = .returned (.bool R) ∧ Holds E s (L) w' := by
  unfold assayerref02_IsKey_f at hm
  go_enter Tryd.func163, Tryd.ntmps163
  refine wp_seq ?_
  refine wp_region_lit ?_
  apply seq_op (V := .bool false) rfl
  · exact fun _ h => O_as rfl rfl h
  (try simp only [PT])
  refine list_end ?_
  refine then_norm ?_
  refine wp_seq ?_
  obtain ⟨u1, gx1, hm⟩ := bs hm
  refine wp_region_lit ?_
  apply seq_op (V := .string a0) rfl
  · exact fun _ h => O_mv rfl rfl h
  (try simp only [PT])
  refine seq_call rfl (fun Φ hΦ => by refine O_call1 rfl Tryd.func176 rfl rfl rfl hΦ) (assayerref01_IsWord_w (fuel := fuel) (a0 := a0) (hm := gx1) (H := H)) ?_
  clear H
  rintro e w1 ⟨rfl, H⟩; refine ⟨_, rfl, ?_⟩
  (try simp only [PT])
  apply seq_op (V := .bool u1) rfl
  · exact fun _ h => O_mv rfl rfl h
  (try simp only [PT])
  refine seq_opg (c := u1) (V := .string a0) (by first | exact wanted_t rfl rfl rfl | exact wanted_vt rfl rfl rfl) ?_ ?_
  · intro hc Φ hΦ; refine O_mv rfl rfl ?_; exact hΦ
  (try simp only [PT])
  refine seq_opg (c := u1) (V := .int .i64 (a0.size : Int)) (by first | exact wanted_t rfl rfl rfl | exact wanted_vt rfl rfl rfl) ?_ ?_
  · intro hc Φ hΦ; (repeat (first | rw [vg_of hc] | rw [vg_of (and_l hc)] | rw [vg_of (and_l (and_l hc))] | rw [vg_of (and_l (and_l (and_l hc)))] | rw [vg_and hc])); refine O_slen rfl Tryd.underlying9 rfl ?_; exact hΦ
  (try simp only [PT])
  refine seq_opg (c := u1) (V := .bool (decide ((a0.size : Int) ≤ 6))) (by first | exact wanted_t rfl rfl rfl | exact wanted_vt rfl rfl rfl) ?_ ?_
  · intro hc Φ hΦ; (repeat (first | rw [vg_of hc] | rw [vg_of (and_l hc)] | rw [vg_of (and_l (and_l hc))] | rw [vg_of (and_l (and_l (and_l hc)))] | rw [vg_and hc])); refine O_bin rfl rfl rfl eqg_int r_leq ?_; exact hΦ
  (try simp only [PT])
  apply seq_op (V := .bool (u1 && (decide ((a0.size : Int) ≤ 6)))) rfl
  · exact fun _ h => G_and _ _ _ rfl rfl rfl rfl h
  (try simp only [PT])
  apply seq_op (V := .bool (u1 && (decide ((a0.size : Int) ≤ 6)))) rfl
  · exact fun _ h => O_as rfl rfl h
  (try simp only [PT])
  refine list_end ?_
  refine then_norm ?_
  refine wp_ret ?_
  have hm := Option.some.inj hm
  subst hm
  exact ret1 rfl (rv_tmp rfl) rfl ⟨rfl, H⟩
def assayerref02_MayOp_f (fuel : Nat) (a0 : Op') : Option Bool := (assayerref02_IsKey_f fuel a0.key).bind fun u1 => if (!u1) = true then (some false) else (if (a0.kind == 1) = true then (some ((((a0.list.length : Int) == 0) && (!a0.has)) && (!a0.isNil))) else (if (a0.kind == 3) = true then (some ((((a0.list.length : Int) == 0) && (!a0.has)) && (!a0.isNil))) else (if (a0.kind == 2) = true then (some ((((a0.value == 0) && (!a0.isNil)) && (a0.has || ((a0.list.length : Int) == 0))) && (decide ((a0.list.length : Int) ≤ 40)))) else (if (a0.kind == 4) = true then (some ((((a0.list.length : Int) == 0) && (a0.has || (!a0.isNil))) && ((a0.has && (!a0.isNil)) || (a0.value == 0)))) else (some false)))))

set_option maxHeartbeats 4000000 in
theorem assayerref02_MayOp_w {E : World} {s : SH} {L : List HP} {w : World} {fuel : Nat} {a0 : Op'} {A_p0_list : Option Addr} {c_p0_list : Nat} (h_p0_list : kI.Sl s (.slice A_p0_list a0.list.length c_p0_list) a0.list) {R : Bool} (hm : assayerref02_MayOp_f fuel a0 = some R) (H : Holds E s (L) w) :
    Calls Tryd.prog 125 #[.agg #[.int .i64 a0.kind, .string a0.key, .int .i64 a0.value, .slice A_p0_list a0.list.length c_p0_list, .bool a0.has, .bool a0.isNil]] w fun e w' => e = .returned (.bool R) ∧ Holds E s (L) w' := by
  unfold assayerref02_MayOp_f at hm
  go_enter Tryd.func125, Tryd.ntmps125
  refine wp_seq ?_
  refine wp_region_lit ?_
  refine OpG.list rfl ?_; refine B_x 108 _ rfl (v := .agg #[.int .i64 a0.kind, .string a0.key, .int .i64 a0.value, .slice A_p0_list a0.list.length c_p0_list, .bool a0.has, .bool a0.isNil]) rfl H ?_; clear H; intro b1 w1 H; (try simp only [Value.cells] at H)
  (try simp only [PT])
  apply seq_op (V := .bool false) rfl
  · exact fun _ h => O_as rfl rfl h
  (try simp only [PT])
  refine list_end ?_
  refine then_norm ?_
  refine wp_seq ?_
  refine wp_seq ?_
  obtain ⟨u1, gx1, hm⟩ := bs hm
  refine wp_region_lit ?_
  apply seq_op (V := .pointer (some ⟨b1, 1, none⟩)) rfl
  · exact fun _ h => O_fld rfl Tryd.underlying108 rfl (Tryd.sizeOf9 _) rfl h
  (try simp only [PT])
  apply seq_op (V := .string a0.key) rfl
  · exact fun _ h => L_1 0 _ _ rfl (Tryd.isAgg9 _) rfl H rfl rfl h
  (try simp only [PT])
  refine seq_call rfl (fun Φ hΦ => by refine O_call1 rfl Tryd.func163 rfl rfl rfl hΦ) (assayerref02_IsKey_w (fuel := fuel) (a0 := a0.key) (hm := gx1) (H := H)) ?_
  clear H
  rintro e w1 ⟨rfl, H⟩; refine ⟨_, rfl, ?_⟩
  (try simp only [PT])
  apply seq_op (V := .bool (!u1)) rfl
  · exact fun _ h => O_not rfl rfl h
  (try simp only [PT])
  refine list_end ?_
  refine then_norm ?_
  refine wp_cond_split rfl (fun hc => ?_) (fun hc => ?_)
  · have hc1 := hc
    clear hc
    replace hm := ifT hc1 hm
    refine wp_seq ?_
    refine wp_region_lit ?_
    apply seq_op (V := .bool false) rfl
    · exact fun _ h => O_as rfl rfl h
    (try simp only [PT])
    refine list_end ?_
    refine then_norm ?_
    refine wp_ret ?_
    refine then_ret ?_
    have hm := Option.some.inj hm
    subst hm
    replace H := H.dropAt 0 rfl; simp only [List.eraseIdx_cons_succ, List.eraseIdx_cons_zero] at H
    exact ret1 rfl (rv_tmp rfl) rfl ⟨rfl, H⟩
  · have hc1 := hc
    clear hc
    replace hm := ifF hc1 hm
    refine wp_skip ?_
    refine then_norm ?_
    refine wp_seq ?_
    refine wp_seq ?_
    refine wp_region_lit ?_
    apply seq_op (V := .pointer (some ⟨b1, 0, none⟩)) rfl
    · exact fun _ h => O_fld rfl Tryd.underlying108 rfl (Tryd.sizeOf3 _) rfl h
    (try simp only [PT])
    apply seq_op (V := .int .i64 a0.kind) rfl
    · exact fun _ h => L_1 0 _ _ rfl (Tryd.isAgg3 _) rfl H rfl rfl h
    (try simp only [PT])
    refine list_end ?_
    refine then_norm ?_
    refine wp_block ?_
    refine wp_seq ?_
    refine wp_seq ?_
    refine wp_region_lit ?_
    apply seq_op (V := .bool (a0.kind == 1)) rfl
    · exact fun _ h => O_bin rfl rfl rfl eqg_int r_eql h
    (try simp only [PT])
    apply seq_op (V := .bool (a0.kind == 1)) rfl
    · exact fun _ h => O_as rfl rfl h
    (try simp only [PT])
    refine list_end ?_
    refine then_norm ?_
    refine wp_cond_split rfl (fun hc => ?_) (fun hc => ?_)
    · have hc2 := hc
      clear hc
      replace hm := ifT hc2 hm
      refine wp_skip ?_
      refine then_norm ?_
      refine wp_cond_true (congrArg Value.bool hc2) ?_
      refine wp_seq ?_
      refine wp_region_lit ?_
      apply seq_op (V := .pointer (some ⟨b1, 3, none⟩)) rfl
      · exact fun _ h => O_fld rfl Tryd.underlying108 rfl (Tryd.sizeOf27 _) rfl h
      (try simp only [PT])
      apply seq_op (V := .slice A_p0_list a0.list.length c_p0_list) rfl
      · exact fun _ h => L_1 0 _ _ rfl (Tryd.isAgg27 _) rfl H rfl rfl h
      (try simp only [PT])
      apply seq_op (V := .int .i64 (a0.list.length : Int)) rfl
      · exact fun _ h => O_len rfl Tryd.underlying27 rfl h
      (try simp only [PT])
      apply seq_op (V := .bool ((a0.list.length : Int) == 0)) rfl
      · exact fun _ h => O_bin rfl rfl rfl eqg_int r_eql h
      (try simp only [PT])
      apply seq_op (V := .bool ((a0.list.length : Int) == 0)) rfl
      · exact fun _ h => O_mv rfl rfl h
      (try simp only [PT])
      refine seq_opg (c := ((a0.list.length : Int) == 0)) (V := .pointer (some ⟨b1, 4, none⟩)) (by first | exact wanted_t rfl rfl rfl | exact wanted_vt rfl rfl rfl) ?_ ?_
      · intro hc Φ hΦ; refine O_fld rfl Tryd.underlying108 rfl (Tryd.sizeOf4 _) rfl ?_; exact hΦ
      (try simp only [PT])
      refine seq_opg (c := ((a0.list.length : Int) == 0)) (V := .bool a0.has) (by first | exact wanted_t rfl rfl rfl | exact wanted_vt rfl rfl rfl) ?_ ?_
      · intro hc Φ hΦ; (repeat (first | rw [vg_of hc] | rw [vg_of (and_l hc)] | rw [vg_of (and_l (and_l hc))] | rw [vg_of (and_l (and_l (and_l hc)))] | rw [vg_and hc])); refine L_1 0 _ _ rfl (Tryd.isAgg4 _) rfl H rfl rfl ?_; exact hΦ
      (try simp only [PT])
      refine seq_opg (c := ((a0.list.length : Int) == 0)) (V := .bool (!a0.has)) (by first | exact wanted_t rfl rfl rfl | exact wanted_vt rfl rfl rfl) ?_ ?_
      · intro hc Φ hΦ; (repeat (first | rw [vg_of hc] | rw [vg_of (and_l hc)] | rw [vg_of (and_l (and_l hc))] | rw [vg_of (and_l (and_l (and_l hc)))] | rw [vg_and hc])); refine O_not rfl rfl ?_; exact hΦ
      (try simp only [PT])
      apply seq_op (V := .bool (((a0.list.length : Int) == 0) && (!a0.has))) rfl
      · exact fun _ h => G_and _ _ _ rfl rfl rfl rfl h
      (try simp only [PT])
      apply seq_op (V := .bool (((a0.list.length : Int) == 0) && (!a0.has))) rfl
      · exact fun _ h => O_mv rfl rfl h
      (try simp only [PT])
      refine seq_opg (c := (((a0.list.length : Int) == 0) && (!a0.has))) (V := .pointer (some ⟨b1, 5, none⟩)) (by first | exact wanted_t rfl rfl rfl | exact wanted_vt rfl rfl rfl) ?_ ?_
      · intro hc Φ hΦ; refine O_fld rfl Tryd.underlying108 rfl (Tryd.sizeOf4 _) rfl ?_; exact hΦ
      (try simp only [PT])
      refine seq_opg (c := (((a0.list.length : Int) == 0) && (!a0.has))) (V := .bool a0.isNil) (by first | exact wanted_t rfl rfl rfl | exact wanted_vt rfl rfl rfl) ?_ ?_
      · intro hc Φ hΦ; (repeat (first | rw [vg_of hc] | rw [vg_of (and_l hc)] | rw [vg_of (and_l (and_l hc))] | rw [vg_of (and_l (and_l (and_l hc)))] | rw [vg_and hc])); refine L_1 0 _ _ rfl (Tryd.isAgg4 _) rfl H rfl rfl ?_; exact hΦ
      (try simp only [PT])
      refine seq_opg (c := (((a0.list.length : Int) == 0) && (!a0.has))) (V := .bool (!a0.isNil)) (by first | exact wanted_t rfl rfl rfl | exact wanted_vt rfl rfl rfl) ?_ ?_
      · intro hc Φ hΦ; (repeat (first | rw [vg_of hc] | rw [vg_of (and_l hc)] | rw [vg_of (and_l (and_l hc))] | rw [vg_of (and_l (and_l (and_l hc)))] | rw [vg_and hc])); refine O_not rfl rfl ?_; exact hΦ
      (try simp only [PT])
      apply seq_op (V := .bool ((((a0.list.length : Int) == 0) && (!a0.has)) && (!a0.isNil))) rfl
      · exact fun _ h => G_and _ _ _ rfl rfl rfl rfl h
      (try simp only [PT])
      apply seq_op (V := .bool ((((a0.list.length : Int) == 0) && (!a0.has)) && (!a0.isNil))) rfl
      · exact fun _ h => O_as rfl rfl h
      (try simp only [PT])
      refine list_end ?_
      refine then_norm ?_
      refine wp_ret ?_
      refine block_ret ?_
      refine then_ret ?_
      have hm := Option.some.inj hm
      subst hm
      replace H := H.dropAt 0 rfl; simp only [List.eraseIdx_cons_succ, List.eraseIdx_cons_zero] at H
      exact ret1 rfl (rv_tmp rfl) rfl ⟨rfl, H⟩
    · have hc2 := hc
      clear hc
      replace hm := ifF hc2 hm
      refine wp_region_lit ?_
      apply seq_op (V := .bool (a0.kind == 3)) rfl
      · exact fun _ h => O_bin rfl rfl rfl eqg_int r_eql h
      (try simp only [PT])
      apply seq_op (V := .bool (a0.kind == 3)) rfl
      · exact fun _ h => O_as rfl rfl h
      (try simp only [PT])
      refine list_end ?_
      refine then_norm ?_
      refine wp_cond_split rfl (fun hc => ?_) (fun hc => ?_)
      · have hc3 := hc
        clear hc
        replace hm := ifT hc3 hm
        refine wp_seq ?_
        refine wp_region_lit ?_
        apply seq_op (V := .pointer (some ⟨b1, 3, none⟩)) rfl
        · exact fun _ h => O_fld rfl Tryd.underlying108 rfl (Tryd.sizeOf27 _) rfl h
        (try simp only [PT])
        apply seq_op (V := .slice A_p0_list a0.list.length c_p0_list) rfl
        · exact fun _ h => L_1 0 _ _ rfl (Tryd.isAgg27 _) rfl H rfl rfl h
        (try simp only [PT])
        apply seq_op (V := .int .i64 (a0.list.length : Int)) rfl
        · exact fun _ h => O_len rfl Tryd.underlying27 rfl h
        (try simp only [PT])
        apply seq_op (V := .bool ((a0.list.length : Int) == 0)) rfl
        · exact fun _ h => O_bin rfl rfl rfl eqg_int r_eql h
        (try simp only [PT])
        apply seq_op (V := .bool ((a0.list.length : Int) == 0)) rfl
        · exact fun _ h => O_mv rfl rfl h
        (try simp only [PT])
        refine seq_opg (c := ((a0.list.length : Int) == 0)) (V := .pointer (some ⟨b1, 4, none⟩)) (by first | exact wanted_t rfl rfl rfl | exact wanted_vt rfl rfl rfl) ?_ ?_
        · intro hc Φ hΦ; refine O_fld rfl Tryd.underlying108 rfl (Tryd.sizeOf4 _) rfl ?_; exact hΦ
        (try simp only [PT])
        refine seq_opg (c := ((a0.list.length : Int) == 0)) (V := .bool a0.has) (by first | exact wanted_t rfl rfl rfl | exact wanted_vt rfl rfl rfl) ?_ ?_
        · intro hc Φ hΦ; (repeat (first | rw [vg_of hc] | rw [vg_of (and_l hc)] | rw [vg_of (and_l (and_l hc))] | rw [vg_of (and_l (and_l (and_l hc)))] | rw [vg_and hc])); refine L_1 0 _ _ rfl (Tryd.isAgg4 _) rfl H rfl rfl ?_; exact hΦ
        (try simp only [PT])
        refine seq_opg (c := ((a0.list.length : Int) == 0)) (V := .bool (!a0.has)) (by first | exact wanted_t rfl rfl rfl | exact wanted_vt rfl rfl rfl) ?_ ?_
        · intro hc Φ hΦ; (repeat (first | rw [vg_of hc] | rw [vg_of (and_l hc)] | rw [vg_of (and_l (and_l hc))] | rw [vg_of (and_l (and_l (and_l hc)))] | rw [vg_and hc])); refine O_not rfl rfl ?_; exact hΦ
        (try simp only [PT])
        apply seq_op (V := .bool (((a0.list.length : Int) == 0) && (!a0.has))) rfl
        · exact fun _ h => G_and _ _ _ rfl rfl rfl rfl h
        (try simp only [PT])
        apply seq_op (V := .bool (((a0.list.length : Int) == 0) && (!a0.has))) rfl
        · exact fun _ h => O_mv rfl rfl h
        (try simp only [PT])
        refine seq_opg (c := (((a0.list.length : Int) == 0) && (!a0.has))) (V := .pointer (some ⟨b1, 5, none⟩)) (by first | exact wanted_t rfl rfl rfl | exact wanted_vt rfl rfl rfl) ?_ ?_
        · intro hc Φ hΦ; refine O_fld rfl Tryd.underlying108 rfl (Tryd.sizeOf4 _) rfl ?_; exact hΦ
        (try simp only [PT])
        refine seq_opg (c := (((a0.list.length : Int) == 0) && (!a0.has))) (V := .bool a0.isNil) (by first | exact wanted_t rfl rfl rfl | exact wanted_vt rfl rfl rfl) ?_ ?_
        · intro hc Φ hΦ; (repeat (first | rw [vg_of hc] | rw [vg_of (and_l hc)] | rw [vg_of (and_l (and_l hc))] | rw [vg_of (and_l (and_l (and_l hc)))] | rw [vg_and hc])); refine L_1 0 _ _ rfl (Tryd.isAgg4 _) rfl H rfl rfl ?_; exact hΦ
        (try simp only [PT])
        refine seq_opg (c := (((a0.list.length : Int) == 0) && (!a0.has))) (V := .bool (!a0.isNil)) (by first | exact wanted_t rfl rfl rfl | exact wanted_vt rfl rfl rfl) ?_ ?_
        · intro hc Φ hΦ; (repeat (first | rw [vg_of hc] | rw [vg_of (and_l hc)] | rw [vg_of (and_l (and_l hc))] | rw [vg_of (and_l (and_l (and_l hc)))] | rw [vg_and hc])); refine O_not rfl rfl ?_; exact hΦ
        (try simp only [PT])
        apply seq_op (V := .bool ((((a0.list.length : Int) == 0) && (!a0.has)) && (!a0.isNil))) rfl
        · exact fun _ h => G_and _ _ _ rfl rfl rfl rfl h
        (try simp only [PT])
        apply seq_op (V := .bool ((((a0.list.length : Int) == 0) && (!a0.has)) && (!a0.isNil))) rfl
        · exact fun _ h => O_as rfl rfl h
        (try simp only [PT])
        refine list_end ?_
        refine then_norm ?_
        refine wp_ret ?_
        refine block_ret ?_
        refine then_ret ?_
        have hm := Option.some.inj hm
        subst hm
        replace H := H.dropAt 0 rfl; simp only [List.eraseIdx_cons_succ, List.eraseIdx_cons_zero] at H
        exact ret1 rfl (rv_tmp rfl) rfl ⟨rfl, H⟩
      · have hc3 := hc
        clear hc
        replace hm := ifF hc3 hm
        refine wp_seq ?_
        refine wp_region_lit ?_
        apply seq_op (V := .bool (a0.kind == 2)) rfl
        · exact fun _ h => O_bin rfl rfl rfl eqg_int r_eql h
        (try simp only [PT])
        apply seq_op (V := .bool (a0.kind == 2)) rfl
        · exact fun _ h => O_as rfl rfl h
        (try simp only [PT])
        refine list_end ?_
        refine then_norm ?_
        refine wp_cond_split rfl (fun hc => ?_) (fun hc => ?_)
        · have hc4 := hc
          clear hc
          replace hm := ifT hc4 hm
          refine wp_seq ?_
          refine wp_region_lit ?_
          apply seq_op (V := .pointer (some ⟨b1, 2, none⟩)) rfl
          · exact fun _ h => O_fld rfl Tryd.underlying108 rfl (Tryd.sizeOf3 _) rfl h
          (try simp only [PT])
          apply seq_op (V := .int .i64 a0.value) rfl
          · exact fun _ h => L_1 0 _ _ rfl (Tryd.isAgg3 _) rfl H rfl rfl h
          (try simp only [PT])
          apply seq_op (V := .bool (a0.value == 0)) rfl
          · exact fun _ h => O_bin rfl rfl rfl eqg_int r_eql h
          (try simp only [PT])
          apply seq_op (V := .bool (a0.value == 0)) rfl
          · exact fun _ h => O_mv rfl rfl h
          (try simp only [PT])
          refine seq_opg (c := (a0.value == 0)) (V := .pointer (some ⟨b1, 5, none⟩)) (by first | exact wanted_t rfl rfl rfl | exact wanted_vt rfl rfl rfl) ?_ ?_
          · intro hc Φ hΦ; refine O_fld rfl Tryd.underlying108 rfl (Tryd.sizeOf4 _) rfl ?_; exact hΦ
          (try simp only [PT])
          refine seq_opg (c := (a0.value == 0)) (V := .bool a0.isNil) (by first | exact wanted_t rfl rfl rfl | exact wanted_vt rfl rfl rfl) ?_ ?_
          · intro hc Φ hΦ; (repeat (first | rw [vg_of hc] | rw [vg_of (and_l hc)] | rw [vg_of (and_l (and_l hc))] | rw [vg_of (and_l (and_l (and_l hc)))] | rw [vg_and hc])); refine L_1 0 _ _ rfl (Tryd.isAgg4 _) rfl H rfl rfl ?_; exact hΦ
          (try simp only [PT])
          refine seq_opg (c := (a0.value == 0)) (V := .bool (!a0.isNil)) (by first | exact wanted_t rfl rfl rfl | exact wanted_vt rfl rfl rfl) ?_ ?_
          · intro hc Φ hΦ; (repeat (first | rw [vg_of hc] | rw [vg_of (and_l hc)] | rw [vg_of (and_l (and_l hc))] | rw [vg_of (and_l (and_l (and_l hc)))] | rw [vg_and hc])); refine O_not rfl rfl ?_; exact hΦ
          (try simp only [PT])
          apply seq_op (V := .bool ((a0.value == 0) && (!a0.isNil))) rfl
          · exact fun _ h => G_and _ _ _ rfl rfl rfl rfl h
          (try simp only [PT])
          apply seq_op (V := .bool ((a0.value == 0) && (!a0.isNil))) rfl
          · exact fun _ h => O_mv rfl rfl h
          (try simp only [PT])
          refine seq_opg (c := ((a0.value == 0) && (!a0.isNil))) (V := .pointer (some ⟨b1, 4, none⟩)) (by first | exact wanted_t rfl rfl rfl | exact wanted_vt rfl rfl rfl) ?_ ?_
          · intro hc Φ hΦ; refine O_fld rfl Tryd.underlying108 rfl (Tryd.sizeOf4 _) rfl ?_; exact hΦ
          (try simp only [PT])
          refine seq_opg (c := ((a0.value == 0) && (!a0.isNil))) (V := .bool a0.has) (by first | exact wanted_t rfl rfl rfl | exact wanted_vt rfl rfl rfl) ?_ ?_
          · intro hc Φ hΦ; (repeat (first | rw [vg_of hc] | rw [vg_of (and_l hc)] | rw [vg_of (and_l (and_l hc))] | rw [vg_of (and_l (and_l (and_l hc)))] | rw [vg_and hc])); refine L_1 0 _ _ rfl (Tryd.isAgg4 _) rfl H rfl rfl ?_; exact hΦ
          (try simp only [PT])
          refine seq_opg (c := ((a0.value == 0) && (!a0.isNil))) (V := .bool a0.has) (by first | exact wanted_t rfl rfl rfl | exact wanted_vt rfl rfl rfl) ?_ ?_
          · intro hc Φ hΦ; (repeat (first | rw [vg_of hc] | rw [vg_of (and_l hc)] | rw [vg_of (and_l (and_l hc))] | rw [vg_of (and_l (and_l (and_l hc)))] | rw [vg_and hc])); refine O_mv rfl rfl ?_; exact hΦ
          (try simp only [PT])
          refine seq_opg (c := (((a0.value == 0) && (!a0.isNil)) && !a0.has)) (V := .pointer (some ⟨b1, 3, none⟩)) (by first | exact wanted_f rfl rfl rfl | exact wanted_vf rfl rfl rfl) ?_ ?_
          · intro hc Φ hΦ; refine O_fld rfl Tryd.underlying108 rfl (Tryd.sizeOf27 _) rfl ?_; exact hΦ
          (try simp only [PT])
          refine seq_opg (c := (((a0.value == 0) && (!a0.isNil)) && !a0.has)) (V := .slice A_p0_list a0.list.length c_p0_list) (by first | exact wanted_f rfl rfl rfl | exact wanted_vf rfl rfl rfl) ?_ ?_
          · intro hc Φ hΦ; (repeat (first | rw [vg_of hc] | rw [vg_of (and_l hc)] | rw [vg_of (and_l (and_l hc))] | rw [vg_of (and_l (and_l (and_l hc)))] | rw [vg_and hc])); refine L_1 0 _ _ rfl (Tryd.isAgg27 _) rfl H rfl rfl ?_; exact hΦ
          (try simp only [PT])
          refine seq_opg (c := (((a0.value == 0) && (!a0.isNil)) && !a0.has)) (V := .int .i64 (a0.list.length : Int)) (by first | exact wanted_f rfl rfl rfl | exact wanted_vf rfl rfl rfl) ?_ ?_
          · intro hc Φ hΦ; (repeat (first | rw [vg_of hc] | rw [vg_of (and_l hc)] | rw [vg_of (and_l (and_l hc))] | rw [vg_of (and_l (and_l (and_l hc)))] | rw [vg_and hc])); refine O_len rfl Tryd.underlying27 rfl ?_; exact hΦ
          (try simp only [PT])
          refine seq_opg (c := (((a0.value == 0) && (!a0.isNil)) && !a0.has)) (V := .bool ((a0.list.length : Int) == 0)) (by first | exact wanted_f rfl rfl rfl | exact wanted_vf rfl rfl rfl) ?_ ?_
          · intro hc Φ hΦ; (repeat (first | rw [vg_of hc] | rw [vg_of (and_l hc)] | rw [vg_of (and_l (and_l hc))] | rw [vg_of (and_l (and_l (and_l hc)))] | rw [vg_and hc])); refine O_bin rfl rfl rfl eqg_int r_eql ?_; exact hΦ
          (try simp only [PT])
          refine seq_opg (c := ((a0.value == 0) && (!a0.isNil))) (V := .bool (a0.has || ((a0.list.length : Int) == 0))) (by first | exact wanted_t rfl rfl rfl | exact wanted_vt rfl rfl rfl) ?_ ?_
          · intro hc Φ hΦ; (repeat (first | rw [vg_of hc] | rw [vg_of (and_l hc)] | rw [vg_of (and_l (and_l hc))] | rw [vg_of (and_l (and_l (and_l hc)))] | rw [vg_and hc])); refine G_or _ _ _ rfl rfl rfl rfl ?_; exact hΦ
          (try simp only [PT])
          apply seq_op (V := .bool (((a0.value == 0) && (!a0.isNil)) && (a0.has || ((a0.list.length : Int) == 0)))) rfl
          · exact fun _ h => G_and _ _ _ rfl rfl rfl rfl h
          (try simp only [PT])
          apply seq_op (V := .bool (((a0.value == 0) && (!a0.isNil)) && (a0.has || ((a0.list.length : Int) == 0)))) rfl
          · exact fun _ h => O_mv rfl rfl h
          (try simp only [PT])
          refine seq_opg (c := (((a0.value == 0) && (!a0.isNil)) && (a0.has || ((a0.list.length : Int) == 0)))) (V := .pointer (some ⟨b1, 3, none⟩)) (by first | exact wanted_t rfl rfl rfl | exact wanted_vt rfl rfl rfl) ?_ ?_
          · intro hc Φ hΦ; refine O_fld rfl Tryd.underlying108 rfl (Tryd.sizeOf27 _) rfl ?_; exact hΦ
          (try simp only [PT])
          refine seq_opg (c := (((a0.value == 0) && (!a0.isNil)) && (a0.has || ((a0.list.length : Int) == 0)))) (V := .slice A_p0_list a0.list.length c_p0_list) (by first | exact wanted_t rfl rfl rfl | exact wanted_vt rfl rfl rfl) ?_ ?_
          · intro hc Φ hΦ; (repeat (first | rw [vg_of hc] | rw [vg_of (and_l hc)] | rw [vg_of (and_l (and_l hc))] | rw [vg_of (and_l (and_l (and_l hc)))] | rw [vg_and hc])); refine L_1 0 _ _ rfl (Tryd.isAgg27 _) rfl H rfl rfl ?_; exact hΦ
          (try simp only [PT])
          refine seq_opg (c := (((a0.value == 0) && (!a0.isNil)) && (a0.has || ((a0.list.length : Int) == 0)))) (V := .int .i64 (a0.list.length : Int)) (by first | exact wanted_t rfl rfl rfl | exact wanted_vt rfl rfl rfl) ?_ ?_
          · intro hc Φ hΦ; (repeat (first | rw [vg_of hc] | rw [vg_of (and_l hc)] | rw [vg_of (and_l (and_l hc))] | rw [vg_of (and_l (and_l (and_l hc)))] | rw [vg_and hc])); refine O_len rfl Tryd.underlying27 rfl ?_; exact hΦ
          (try simp only [PT])
          refine seq_opg (c := (((a0.value == 0) && (!a0.isNil)) && (a0.has || ((a0.list.length : Int) == 0)))) (V := .bool (decide ((a0.list.length : Int) ≤ 40))) (by first | exact wanted_t rfl rfl rfl | exact wanted_vt rfl rfl rfl) ?_ ?_
          · intro hc Φ hΦ; (repeat (first | rw [vg_of hc] | rw [vg_of (and_l hc)] | rw [vg_of (and_l (and_l hc))] | rw [vg_of (and_l (and_l (and_l hc)))] | rw [vg_and hc])); refine O_bin rfl rfl rfl eqg_int r_leq ?_; exact hΦ
          (try simp only [PT])
          apply seq_op (V := .bool ((((a0.value == 0) && (!a0.isNil)) && (a0.has || ((a0.list.length : Int) == 0))) && (decide ((a0.list.length : Int) ≤ 40)))) rfl
          · exact fun _ h => G_and _ _ _ rfl rfl rfl rfl h
          (try simp only [PT])
          apply seq_op (V := .bool ((((a0.value == 0) && (!a0.isNil)) && (a0.has || ((a0.list.length : Int) == 0))) && (decide ((a0.list.length : Int) ≤ 40)))) rfl
          · exact fun _ h => O_as rfl rfl h
          (try simp only [PT])
          refine list_end ?_
          refine then_norm ?_
          refine wp_ret ?_
          refine block_ret ?_
          refine then_ret ?_
          have hm := Option.some.inj hm
          subst hm
          replace H := H.dropAt 0 rfl; simp only [List.eraseIdx_cons_succ, List.eraseIdx_cons_zero] at H
          exact ret1 rfl (rv_tmp rfl) rfl ⟨rfl, H⟩
        · have hc4 := hc
          clear hc
          replace hm := ifF hc4 hm
          refine wp_seq ?_
          refine wp_region_lit ?_
          apply seq_op (V := .bool (a0.kind == 4)) rfl
          · exact fun _ h => O_bin rfl rfl rfl eqg_int r_eql h
          (try simp only [PT])
          apply seq_op (V := .bool (a0.kind == 4)) rfl
          · exact fun _ h => O_as rfl rfl h
          (try simp only [PT])
          refine list_end ?_
          refine then_norm ?_
          refine wp_cond_split rfl (fun hc => ?_) (fun hc => ?_)
          · have hc5 := hc
            clear hc
            replace hm := ifT hc5 hm
            refine wp_seq ?_
            refine wp_region_lit ?_
            apply seq_op (V := .pointer (some ⟨b1, 3, none⟩)) rfl
            · exact fun _ h => O_fld rfl Tryd.underlying108 rfl (Tryd.sizeOf27 _) rfl h
            (try simp only [PT])
            apply seq_op (V := .slice A_p0_list a0.list.length c_p0_list) rfl
            · exact fun _ h => L_1 0 _ _ rfl (Tryd.isAgg27 _) rfl H rfl rfl h
            (try simp only [PT])
            apply seq_op (V := .int .i64 (a0.list.length : Int)) rfl
            · exact fun _ h => O_len rfl Tryd.underlying27 rfl h
            (try simp only [PT])
            apply seq_op (V := .bool ((a0.list.length : Int) == 0)) rfl
            · exact fun _ h => O_bin rfl rfl rfl eqg_int r_eql h
            (try simp only [PT])
            apply seq_op (V := .bool ((a0.list.length : Int) == 0)) rfl
            · exact fun _ h => O_mv rfl rfl h
            (try simp only [PT])
            refine seq_opg (c := ((a0.list.length : Int) == 0)) (V := .pointer (some ⟨b1, 4, none⟩)) (by first | exact wanted_t rfl rfl rfl | exact wanted_vt rfl rfl rfl) ?_ ?_
            · intro hc Φ hΦ; refine O_fld rfl Tryd.underlying108 rfl (Tryd.sizeOf4 _) rfl ?_; exact hΦ
            (try simp only [PT])
            refine seq_opg (c := ((a0.list.length : Int) == 0)) (V := .bool a0.has) (by first | exact wanted_t rfl rfl rfl | exact wanted_vt rfl rfl rfl) ?_ ?_
            · intro hc Φ hΦ; (repeat (first | rw [vg_of hc] | rw [vg_of (and_l hc)] | rw [vg_of (and_l (and_l hc))] | rw [vg_of (and_l (and_l (and_l hc)))] | rw [vg_and hc])); refine L_1 0 _ _ rfl (Tryd.isAgg4 _) rfl H rfl rfl ?_; exact hΦ
            (try simp only [PT])
            refine seq_opg (c := ((a0.list.length : Int) == 0)) (V := .bool a0.has) (by first | exact wanted_t rfl rfl rfl | exact wanted_vt rfl rfl rfl) ?_ ?_
            · intro hc Φ hΦ; (repeat (first | rw [vg_of hc] | rw [vg_of (and_l hc)] | rw [vg_of (and_l (and_l hc))] | rw [vg_of (and_l (and_l (and_l hc)))] | rw [vg_and hc])); refine O_mv rfl rfl ?_; exact hΦ
            (try simp only [PT])
            refine seq_opg (c := (((a0.list.length : Int) == 0) && !a0.has)) (V := .pointer (some ⟨b1, 5, none⟩)) (by first | exact wanted_f rfl rfl rfl | exact wanted_vf rfl rfl rfl) ?_ ?_
            · intro hc Φ hΦ; refine O_fld rfl Tryd.underlying108 rfl (Tryd.sizeOf4 _) rfl ?_; exact hΦ
            (try simp only [PT])
            refine seq_opg (c := (((a0.list.length : Int) == 0) && !a0.has)) (V := .bool a0.isNil) (by first | exact wanted_f rfl rfl rfl | exact wanted_vf rfl rfl rfl) ?_ ?_
            · intro hc Φ hΦ; (repeat (first | rw [vg_of hc] | rw [vg_of (and_l hc)] | rw [vg_of (and_l (and_l hc))] | rw [vg_of (and_l (and_l (and_l hc)))] | rw [vg_and hc])); refine L_1 0 _ _ rfl (Tryd.isAgg4 _) rfl H rfl rfl ?_; exact hΦ
            (try simp only [PT])
            refine seq_opg (c := (((a0.list.length : Int) == 0) && !a0.has)) (V := .bool (!a0.isNil)) (by first | exact wanted_f rfl rfl rfl | exact wanted_vf rfl rfl rfl) ?_ ?_
            · intro hc Φ hΦ; (repeat (first | rw [vg_of hc] | rw [vg_of (and_l hc)] | rw [vg_of (and_l (and_l hc))] | rw [vg_of (and_l (and_l (and_l hc)))] | rw [vg_and hc])); refine O_not rfl rfl ?_; exact hΦ
            (try simp only [PT])
            refine seq_opg (c := ((a0.list.length : Int) == 0)) (V := .bool (a0.has || (!a0.isNil))) (by first | exact wanted_t rfl rfl rfl | exact wanted_vt rfl rfl rfl) ?_ ?_
            · intro hc Φ hΦ; (repeat (first | rw [vg_of hc] | rw [vg_of (and_l hc)] | rw [vg_of (and_l (and_l hc))] | rw [vg_of (and_l (and_l (and_l hc)))] | rw [vg_and hc])); refine G_or _ _ _ rfl rfl rfl rfl ?_; exact hΦ
            (try simp only [PT])
            apply seq_op (V := .bool (((a0.list.length : Int) == 0) && (a0.has || (!a0.isNil)))) rfl
            · exact fun _ h => G_and _ _ _ rfl rfl rfl rfl h
            (try simp only [PT])
            apply seq_op (V := .bool (((a0.list.length : Int) == 0) && (a0.has || (!a0.isNil)))) rfl
            · exact fun _ h => O_mv rfl rfl h
            (try simp only [PT])
            refine seq_opg (c := (((a0.list.length : Int) == 0) && (a0.has || (!a0.isNil)))) (V := .pointer (some ⟨b1, 4, none⟩)) (by first | exact wanted_t rfl rfl rfl | exact wanted_vt rfl rfl rfl) ?_ ?_
            · intro hc Φ hΦ; refine O_fld rfl Tryd.underlying108 rfl (Tryd.sizeOf4 _) rfl ?_; exact hΦ
            (try simp only [PT])
            refine seq_opg (c := (((a0.list.length : Int) == 0) && (a0.has || (!a0.isNil)))) (V := .bool a0.has) (by first | exact wanted_t rfl rfl rfl | exact wanted_vt rfl rfl rfl) ?_ ?_
            · intro hc Φ hΦ; (repeat (first | rw [vg_of hc] | rw [vg_of (and_l hc)] | rw [vg_of (and_l (and_l hc))] | rw [vg_of (and_l (and_l (and_l hc)))] | rw [vg_and hc])); refine L_1 0 _ _ rfl (Tryd.isAgg4 _) rfl H rfl rfl ?_; exact hΦ
            (try simp only [PT])
            refine seq_opg (c := (((a0.list.length : Int) == 0) && (a0.has || (!a0.isNil)))) (V := .bool a0.has) (by first | exact wanted_t rfl rfl rfl | exact wanted_vt rfl rfl rfl) ?_ ?_
            · intro hc Φ hΦ; (repeat (first | rw [vg_of hc] | rw [vg_of (and_l hc)] | rw [vg_of (and_l (and_l hc))] | rw [vg_of (and_l (and_l (and_l hc)))] | rw [vg_and hc])); refine O_mv rfl rfl ?_; exact hΦ
            (try simp only [PT])
            refine seq_opg (c := ((((a0.list.length : Int) == 0) && (a0.has || (!a0.isNil))) && a0.has)) (V := .pointer (some ⟨b1, 5, none⟩)) (by first | exact wanted_t rfl rfl rfl | exact wanted_vt rfl rfl rfl) ?_ ?_
            · intro hc Φ hΦ; refine O_fld rfl Tryd.underlying108 rfl (Tryd.sizeOf4 _) rfl ?_; exact hΦ
            (try simp only [PT])
            refine seq_opg (c := ((((a0.list.length : Int) == 0) && (a0.has || (!a0.isNil))) && a0.has)) (V := .bool a0.isNil) (by first | exact wanted_t rfl rfl rfl | exact wanted_vt rfl rfl rfl) ?_ ?_
            · intro hc Φ hΦ; (repeat (first | rw [vg_of hc] | rw [vg_of (and_l hc)] | rw [vg_of (and_l (and_l hc))] | rw [vg_of (and_l (and_l (and_l hc)))] | rw [vg_and hc])); refine L_1 0 _ _ rfl (Tryd.isAgg4 _) rfl H rfl rfl ?_; exact hΦ
            (try simp only [PT])
            refine seq_opg (c := ((((a0.list.length : Int) == 0) && (a0.has || (!a0.isNil))) && a0.has)) (V := .bool (!a0.isNil)) (by first | exact wanted_t rfl rfl rfl | exact wanted_vt rfl rfl rfl) ?_ ?_
            · intro hc Φ hΦ; (repeat (first | rw [vg_of hc] | rw [vg_of (and_l hc)] | rw [vg_of (and_l (and_l hc))] | rw [vg_of (and_l (and_l (and_l hc)))] | rw [vg_and hc])); refine O_not rfl rfl ?_; exact hΦ
            (try simp only [PT])
            refine seq_opg (c := (((a0.list.length : Int) == 0) && (a0.has || (!a0.isNil)))) (V := .bool (a0.has && (!a0.isNil))) (by first | exact wanted_t rfl rfl rfl | exact wanted_vt rfl rfl rfl) ?_ ?_
            · intro hc Φ hΦ; (repeat (first | rw [vg_of hc] | rw [vg_of (and_l hc)] | rw [vg_of (and_l (and_l hc))] | rw [vg_of (and_l (and_l (and_l hc)))] | rw [vg_and hc])); refine G_and _ _ _ rfl rfl rfl rfl ?_; exact hΦ
            (try simp only [PT])
            refine seq_opg (c := (((a0.list.length : Int) == 0) && (a0.has || (!a0.isNil)))) (V := .bool (a0.has && (!a0.isNil))) (by first | exact wanted_t rfl rfl rfl | exact wanted_vt rfl rfl rfl) ?_ ?_
            · intro hc Φ hΦ; (repeat (first | rw [vg_of hc] | rw [vg_of (and_l hc)] | rw [vg_of (and_l (and_l hc))] | rw [vg_of (and_l (and_l (and_l hc)))] | rw [vg_and hc])); refine O_mv rfl rfl ?_; exact hΦ
            (try simp only [PT])
            refine seq_opg (c := ((((a0.list.length : Int) == 0) && (a0.has || (!a0.isNil))) && !(a0.has && (!a0.isNil)))) (V := .pointer (some ⟨b1, 2, none⟩)) (by first | exact wanted_f rfl rfl rfl | exact wanted_vf rfl rfl rfl) ?_ ?_
            · intro hc Φ hΦ; refine O_fld rfl Tryd.underlying108 rfl (Tryd.sizeOf3 _) rfl ?_; exact hΦ
            (try simp only [PT])
            refine seq_opg (c := ((((a0.list.length : Int) == 0) && (a0.has || (!a0.isNil))) && !(a0.has && (!a0.isNil)))) (V := .int .i64 a0.value) (by first | exact wanted_f rfl rfl rfl | exact wanted_vf rfl rfl rfl) ?_ ?_
            · intro hc Φ hΦ; (repeat (first | rw [vg_of hc] | rw [vg_of (and_l hc)] | rw [vg_of (and_l (and_l hc))] | rw [vg_of (and_l (and_l (and_l hc)))] | rw [vg_and hc])); refine L_1 0 _ _ rfl (Tryd.isAgg3 _) rfl H rfl rfl ?_; exact hΦ
            (try simp only [PT])
            refine seq_opg (c := ((((a0.list.length : Int) == 0) && (a0.has || (!a0.isNil))) && !(a0.has && (!a0.isNil)))) (V := .bool (a0.value == 0)) (by first | exact wanted_f rfl rfl rfl | exact wanted_vf rfl rfl rfl) ?_ ?_
            · intro hc Φ hΦ; (repeat (first | rw [vg_of hc] | rw [vg_of (and_l hc)] | rw [vg_of (and_l (and_l hc))] | rw [vg_of (and_l (and_l (and_l hc)))] | rw [vg_and hc])); refine O_bin rfl rfl rfl eqg_int r_eql ?_; exact hΦ
            (try simp only [PT])
            refine seq_opg (c := (((a0.list.length : Int) == 0) && (a0.has || (!a0.isNil)))) (V := .bool ((a0.has && (!a0.isNil)) || (a0.value == 0))) (by first | exact wanted_t rfl rfl rfl | exact wanted_vt rfl rfl rfl) ?_ ?_
            · intro hc Φ hΦ; (repeat (first | rw [vg_of hc] | rw [vg_of (and_l hc)] | rw [vg_of (and_l (and_l hc))] | rw [vg_of (and_l (and_l (and_l hc)))] | rw [vg_and hc])); refine G_or _ _ _ rfl rfl rfl rfl ?_; exact hΦ
            (try simp only [PT])
            apply seq_op (V := .bool ((((a0.list.length : Int) == 0) && (a0.has || (!a0.isNil))) && ((a0.has && (!a0.isNil)) || (a0.value == 0)))) rfl
            · exact fun _ h => G_and _ _ _ rfl rfl rfl rfl h
            (try simp only [PT])
            apply seq_op (V := .bool ((((a0.list.length : Int) == 0) && (a0.has || (!a0.isNil))) && ((a0.has && (!a0.isNil)) || (a0.value == 0)))) rfl
            · exact fun _ h => O_as rfl rfl h
            (try simp only [PT])
            refine list_end ?_
            refine then_norm ?_
            refine wp_ret ?_
            refine block_ret ?_
            refine then_ret ?_
            have hm := Option.some.inj hm
            subst hm
            replace H := H.dropAt 0 rfl; simp only [List.eraseIdx_cons_succ, List.eraseIdx_cons_zero] at H
            exact ret1 rfl (rv_tmp rfl) rfl ⟨rfl, H⟩
          · have hc5 := hc
            clear hc
            replace hm := ifF hc5 hm
            refine wp_skip ?_
            refine block_norm ?_
            refine then_norm ?_
            refine wp_seq ?_
            refine wp_region_lit ?_
            apply seq_op (V := .bool false) rfl
            · exact fun _ h => O_as rfl rfl h
            (try simp only [PT])
            refine list_end ?_
            refine then_norm ?_
            refine wp_ret ?_
            have hm := Option.some.inj hm
            subst hm
            replace H := H.dropAt 0 rfl; simp only [List.eraseIdx_cons_succ, List.eraseIdx_cons_zero] at H
            exact ret1 rfl (rv_tmp rfl) rfl ⟨rfl, H⟩
def assayerref02_Can_l9 (fuel : Nat)  : Nat → List Op' → Option ((Bool ⊕ Unit))
  | k9, []  => some (.inr ())
  | k9, x9 :: r9 => (assayerref02_MayOp_f fuel x9).bind fun u1 => if (!u1) = true then (some (.inl false)) else (assayerref02_Can_l9 fuel (k9 + 1) r9)

def assayerref02_Can_l4 (fuel : Nat)  : Nat → List Ev → Option ((Bool ⊕ Unit))
  | k4, []  => some (.inr ())
  | k4, x4 :: r4 => if ((((((decide (x4.kind < 1)) || (decide (x4.kind > 4))) || (decide (x4.proc < 0))) || (decide (x4.proc > 99))) || (decide ((x4.ops.length : Int) < 1))) || (decide ((x4.ops.length : Int) > 8))) = true then (some (.inl false)) else ((assayerref02_Can_l9 fuel 0 x4.ops).bind fun | .inl z9_r => (some (.inl z9_r)) | .inr () => (assayerref02_Can_l4 fuel (k4 + 1) r4))

def assayerref02_Can_f (fuel : Nat) (a0 : List Ev) : Option Bool := if (decide ((a0.length : Int) > 300)) = true then (some false) else ((assayerref02_Can_l4 fuel 0 a0).bind fun | .inl z4_r => (some z4_r) | .inr () => (some true))

set_option maxHeartbeats 4000000 in
theorem assayerref02_Can_w {E : World} {s : SH} {L : List HP} {w : World} {fuel : Nat} {a0 : List Ev} {A_p0 : Option Addr} {c_p0 : Nat} (h_p0 : kEv.Sl s (.slice A_p0 a0.length c_p0) a0) {R : Bool} (hm : assayerref02_Can_f fuel a0 = some R) (H : Holds E s (L) w) :
    Calls Tryd.prog 78 #[.slice A_p0 a0.length c_p0] w fun e w' => e = .returned (.bool R) ∧ Holds E s (L) w' := by
  unfold assayerref02_Can_f at hm
  go_enter Tryd.func78, Tryd.ntmps78
  refine wp_seq ?_
  refine wp_region_lit ?_
  apply seq_op (V := .bool false) rfl
  · exact fun _ h => O_as rfl rfl h
  (try simp only [PT])
  refine list_end ?_
  refine then_norm ?_
  refine wp_seq ?_
  refine wp_seq ?_
  refine wp_region_lit ?_
  apply seq_op (V := .slice A_p0 a0.length c_p0) rfl
  · exact fun _ h => O_mv rfl rfl h
  (try simp only [PT])
  apply seq_op (V := .int .i64 (a0.length : Int)) rfl
  · exact fun _ h => O_len rfl Tryd.underlying55 rfl h
  (try simp only [PT])
  apply seq_op (V := .bool (decide ((a0.length : Int) > 300))) rfl
  · exact fun _ h => O_bin rfl rfl rfl eqg_int r_gtr h
  (try simp only [PT])
  refine list_end ?_
  refine then_norm ?_
  refine wp_cond_split rfl (fun hc => ?_) (fun hc => ?_)
  · have hc1 := hc
    clear hc
    replace hm := ifT hc1 hm
    refine wp_seq ?_
    refine wp_region_lit ?_
    apply seq_op (V := .bool false) rfl
    · exact fun _ h => O_as rfl rfl h
    (try simp only [PT])
    refine list_end ?_
    refine then_norm ?_
    refine wp_ret ?_
    refine then_ret ?_
    have hm := Option.some.inj hm
    subst hm
    exact ret1 rfl (rv_tmp rfl) rfl ⟨rfl, H⟩
  · have hc1 := hc
    clear hc
    replace hm := ifF hc1 hm
    refine wp_skip ?_
    refine then_norm ?_
    refine wp_seq ?_
    refine wp_seq ?_
    refine wp_region_lit ?_
    apply seq_op (V := .slice A_p0 a0.length c_p0) rfl
    · exact fun _ h => O_mv rfl rfl h
    (try simp only [PT])
    apply seq_op (V := .int .i64 (a0.length : Int)) rfl
    · exact fun _ h => O_len rfl Tryd.underlying55 rfl h
    (try simp only [PT])
    apply seq_op (V := .int .i64 0) rfl
    · exact fun _ h => O_mv rfl rfl h
    (try simp only [PT])
    refine list_end ?_
    refine then_norm ?_
    refine wp_block ?_
    obtain ⟨R4, hq4, hm⟩ := bs hm
    have hn4 := Nat.le_trans (len_le (d := kEv) h_p0 (by decide)) (by decide : (140737488355328 : Nat) ≤ 9223372036854775807)
    refine wp_loopF [none, none, some 2, none, some 4, none, some 6, none, none, none, none, none, some 12, some 13, some 14, some 15, some 16, some 17, some 18, some 19, some 20, some 21, some 22, some 23, some 24, some 25, some 26, some 27, some 28, some 29, some 30, some 31, some 32, some 33, some 34, some 35, some 36, some 37, some 38, some 39, some 40, some 41, some 42, some 43, some 44, some 45, some 46, some 47, some 48, some 49, some 50, some 51, some 52, some 53, some 54, some 55, some 56, some 57] rfl (by simp) (fun f w => ∃ (k4 : Nat) (r4 : List Ev), a0.drop k4 = r4 ∧ f 12 = .int .i64 (k4 : Int) ∧ assayerref02_Can_l4 fuel k4 r4 = some R4 ∧ Holds E s (L) w) (fun f w => a0.length - (intOf (f 12)).toNat) ?_ ?_
    · exact ⟨0, a0, rfl, rfl, hq4, H⟩
    · clear H
      intro f w hI
      obtain ⟨k4, r4, hd4, hf12, hq4', H⟩ := hI
      clear hq4; have hq4 := hq4'; clear hq4'
      simp only [ovm, mixM]
      simp only [hf12]; clear hf12
      refine wp_seq ?_
      refine wp_region_lit ?_
      apply seq_op (V := .bool (decide ((k4 : Int) < (a0.length : Int)))) rfl
      · exact fun _ h => O_bin rfl rfl rfl eqg_int r_lss h
      (try simp only [PT])
      refine list_end ?_
      refine then_norm ?_
      refine wp_seq ?_
      refine wp_cond_split rfl (fun hc => ?_) (fun hc => ?_)
      · have hc2 := hc
        clear hc
        obtain ⟨x4, r4', rfl, hd4', hd4'', hl4⟩ := rng_t hd4 hc2
        rw [assayerref02_Can_l4] at hq4
        refine wp_skip ?_
        refine then_norm ?_
        refine wp_seq ?_
        refine wp_block ?_
        refine wp_seq ?_
        obtain ⟨be1, oe1, A2e1, c2e1, rfl, hCe1, h0e1, h1e1, h2e1⟩ := kEv_el h_p0 hd4'
        refine wp_region_lit ?_
        apply seq_op (V := .pointer (some ⟨be1, oe1 + k4 * 3, none⟩)) rfl
        · exact fun _ h => O_ix rfl Tryd.underlying55 (Tryd.sizeOf73 _) rfl rfl rfl hl4 h
        (try simp only [PT])
        apply seq_op (V := .agg #[.int .i64 x4.kind, .int .i64 x4.proc, .slice A2e1 x4.ops.length c2e1]) rfl
        · exact fun _ h => G_sN _ _ rfl (Tryd.isAgg73 _) rfl H hCe1 (Tryd.sizeOf73 _) h
        (try simp only [PT])
        refine OpG.list rfl ?_; refine G_alloc 73 rfl (Tryd.zeroValue73 _) H ?_; clear H; intro b4 w1 H; (try simp only [Value.cells] at H)
        (try simp only [PT])
        refine OpG.list rfl ?_; refine G_setNi 0 (c := [.int .i64 x4.kind, .int .i64 x4.proc, .slice A2e1 x4.ops.length c2e1]) _ _ _ rfl (Tryd.sizeOf73 _) rfl rfl (by simp [Value.oneCell']) H rfl rfl ?_; clear H; intro w1 H; simp only [List.set_cons_succ, List.set_cons_zero] at H
        (try simp only [PT])
        refine list_end ?_
        refine then_norm ?_
        refine wp_seq ?_
        refine wp_seq ?_
        refine wp_region_lit ?_
        apply seq_op (V := .pointer (some ⟨b4, 0, none⟩)) rfl
        · exact fun _ h => O_fld rfl Tryd.underlying73 rfl (Tryd.sizeOf3 _) rfl h
        (try simp only [PT])
        apply seq_op (V := .int .i64 x4.kind) rfl
        · exact fun _ h => L_1 0 _ _ rfl (Tryd.isAgg3 _) rfl H rfl rfl h
        (try simp only [PT])
        apply seq_op (V := .bool (decide (x4.kind < 1))) rfl
        · exact fun _ h => O_bin rfl rfl rfl eqg_int r_lss h
        (try simp only [PT])
        apply seq_op (V := .bool (decide (x4.kind < 1))) rfl
        · exact fun _ h => O_mv rfl rfl h
        (try simp only [PT])
        refine seq_opg (c := (!(decide (x4.kind < 1)))) (V := .pointer (some ⟨b4, 0, none⟩)) (by first | exact wanted_f rfl rfl rfl | exact wanted_vf rfl rfl rfl) ?_ ?_
        · intro hc Φ hΦ; refine O_fld rfl Tryd.underlying73 rfl (Tryd.sizeOf3 _) rfl ?_; exact hΦ
        (try simp only [PT])
        refine seq_opg (c := (!(decide (x4.kind < 1)))) (V := .int .i64 x4.kind) (by first | exact wanted_f rfl rfl rfl | exact wanted_vf rfl rfl rfl) ?_ ?_
        · intro hc Φ hΦ; (repeat (first | rw [vg_of hc] | rw [vg_of (and_l hc)] | rw [vg_of (and_l (and_l hc))] | rw [vg_of (and_l (and_l (and_l hc)))] | rw [vg_and hc])); refine L_1 0 _ _ rfl (Tryd.isAgg3 _) rfl H rfl rfl ?_; exact hΦ
        (try simp only [PT])
        refine seq_opg (c := (!(decide (x4.kind < 1)))) (V := .bool (decide (x4.kind > 4))) (by first | exact wanted_f rfl rfl rfl | exact wanted_vf rfl rfl rfl) ?_ ?_
        · intro hc Φ hΦ; (repeat (first | rw [vg_of hc] | rw [vg_of (and_l hc)] | rw [vg_of (and_l (and_l hc))] | rw [vg_of (and_l (and_l (and_l hc)))] | rw [vg_and hc])); refine O_bin rfl rfl rfl eqg_int r_gtr ?_; exact hΦ
        (try simp only [PT])
        apply seq_op (V := .bool ((decide (x4.kind < 1)) || (decide (x4.kind > 4)))) rfl
        · exact fun _ h => G_or _ _ _ rfl rfl rfl rfl h
        (try simp only [PT])
        apply seq_op (V := .bool ((decide (x4.kind < 1)) || (decide (x4.kind > 4)))) rfl
        · exact fun _ h => O_mv rfl rfl h
        (try simp only [PT])
        refine seq_opg (c := (!((decide (x4.kind < 1)) || (decide (x4.kind > 4))))) (V := .pointer (some ⟨b4, 1, none⟩)) (by first | exact wanted_f rfl rfl rfl | exact wanted_vf rfl rfl rfl) ?_ ?_
        · intro hc Φ hΦ; refine O_fld rfl Tryd.underlying73 rfl (Tryd.sizeOf3 _) rfl ?_; exact hΦ
        (try simp only [PT])
        refine seq_opg (c := (!((decide (x4.kind < 1)) || (decide (x4.kind > 4))))) (V := .int .i64 x4.proc) (by first | exact wanted_f rfl rfl rfl | exact wanted_vf rfl rfl rfl) ?_ ?_
        · intro hc Φ hΦ; (repeat (first | rw [vg_of hc] | rw [vg_of (and_l hc)] | rw [vg_of (and_l (and_l hc))] | rw [vg_of (and_l (and_l (and_l hc)))] | rw [vg_and hc])); refine L_1 0 _ _ rfl (Tryd.isAgg3 _) rfl H rfl rfl ?_; exact hΦ
        (try simp only [PT])
        refine seq_opg (c := (!((decide (x4.kind < 1)) || (decide (x4.kind > 4))))) (V := .bool (decide (x4.proc < 0))) (by first | exact wanted_f rfl rfl rfl | exact wanted_vf rfl rfl rfl) ?_ ?_
        · intro hc Φ hΦ; (repeat (first | rw [vg_of hc] | rw [vg_of (and_l hc)] | rw [vg_of (and_l (and_l hc))] | rw [vg_of (and_l (and_l (and_l hc)))] | rw [vg_and hc])); refine O_bin rfl rfl rfl eqg_int r_lss ?_; exact hΦ
        (try simp only [PT])
        apply seq_op (V := .bool (((decide (x4.kind < 1)) || (decide (x4.kind > 4))) || (decide (x4.proc < 0)))) rfl
        · exact fun _ h => G_or _ _ _ rfl rfl rfl rfl h
        (try simp only [PT])
        apply seq_op (V := .bool (((decide (x4.kind < 1)) || (decide (x4.kind > 4))) || (decide (x4.proc < 0)))) rfl
        · exact fun _ h => O_mv rfl rfl h
        (try simp only [PT])
        refine seq_opg (c := (!(((decide (x4.kind < 1)) || (decide (x4.kind > 4))) || (decide (x4.proc < 0))))) (V := .pointer (some ⟨b4, 1, none⟩)) (by first | exact wanted_f rfl rfl rfl | exact wanted_vf rfl rfl rfl) ?_ ?_
        · intro hc Φ hΦ; refine O_fld rfl Tryd.underlying73 rfl (Tryd.sizeOf3 _) rfl ?_; exact hΦ
        (try simp only [PT])
        refine seq_opg (c := (!(((decide (x4.kind < 1)) || (decide (x4.kind > 4))) || (decide (x4.proc < 0))))) (V := .int .i64 x4.proc) (by first | exact wanted_f rfl rfl rfl | exact wanted_vf rfl rfl rfl) ?_ ?_
        · intro hc Φ hΦ; (repeat (first | rw [vg_of hc] | rw [vg_of (and_l hc)] | rw [vg_of (and_l (and_l hc))] | rw [vg_of (and_l (and_l (and_l hc)))] | rw [vg_and hc])); refine L_1 0 _ _ rfl (Tryd.isAgg3 _) rfl H rfl rfl ?_; exact hΦ
        (try simp only [PT])
        refine seq_opg (c := (!(((decide (x4.kind < 1)) || (decide (x4.kind > 4))) || (decide (x4.proc < 0))))) (V := .bool (decide (x4.proc > 99))) (by first | exact wanted_f rfl rfl rfl | exact wanted_vf rfl rfl rfl) ?_ ?_
        · intro hc Φ hΦ; (repeat (first | rw [vg_of hc] | rw [vg_of (and_l hc)] | rw [vg_of (and_l (and_l hc))] | rw [vg_of (and_l (and_l (and_l hc)))] | rw [vg_and hc])); refine O_bin rfl rfl rfl eqg_int r_gtr ?_; exact hΦ
        (try simp only [PT])
        apply seq_op (V := .bool ((((decide (x4.kind < 1)) || (decide (x4.kind > 4))) || (decide (x4.proc < 0))) || (decide (x4.proc > 99)))) rfl
        · exact fun _ h => G_or _ _ _ rfl rfl rfl rfl h
        (try simp only [PT])
        apply seq_op (V := .bool ((((decide (x4.kind < 1)) || (decide (x4.kind > 4))) || (decide (x4.proc < 0))) || (decide (x4.proc > 99)))) rfl
        · exact fun _ h => O_mv rfl rfl h
        (try simp only [PT])
        refine seq_opg (c := (!((((decide (x4.kind < 1)) || (decide (x4.kind > 4))) || (decide (x4.proc < 0))) || (decide (x4.proc > 99))))) (V := .pointer (some ⟨b4, 2, none⟩)) (by first | exact wanted_f rfl rfl rfl | exact wanted_vf rfl rfl rfl) ?_ ?_
        · intro hc Φ hΦ; refine O_fld rfl Tryd.underlying73 rfl (Tryd.sizeOf71 _) rfl ?_; exact hΦ
        (try simp only [PT])
        refine seq_opg (c := (!((((decide (x4.kind < 1)) || (decide (x4.kind > 4))) || (decide (x4.proc < 0))) || (decide (x4.proc > 99))))) (V := .slice A2e1 x4.ops.length c2e1) (by first | exact wanted_f rfl rfl rfl | exact wanted_vf rfl rfl rfl) ?_ ?_
        · intro hc Φ hΦ; (repeat (first | rw [vg_of hc] | rw [vg_of (and_l hc)] | rw [vg_of (and_l (and_l hc))] | rw [vg_of (and_l (and_l (and_l hc)))] | rw [vg_and hc])); refine L_1 0 _ _ rfl (Tryd.isAgg71 _) rfl H rfl rfl ?_; exact hΦ
        (try simp only [PT])
        refine seq_opg (c := (!((((decide (x4.kind < 1)) || (decide (x4.kind > 4))) || (decide (x4.proc < 0))) || (decide (x4.proc > 99))))) (V := .int .i64 (x4.ops.length : Int)) (by first | exact wanted_f rfl rfl rfl | exact wanted_vf rfl rfl rfl) ?_ ?_
        · intro hc Φ hΦ; (repeat (first | rw [vg_of hc] | rw [vg_of (and_l hc)] | rw [vg_of (and_l (and_l hc))] | rw [vg_of (and_l (and_l (and_l hc)))] | rw [vg_and hc])); refine O_len rfl Tryd.underlying71 rfl ?_; exact hΦ
        (try simp only [PT])
        refine seq_opg (c := (!((((decide (x4.kind < 1)) || (decide (x4.kind > 4))) || (decide (x4.proc < 0))) || (decide (x4.proc > 99))))) (V := .bool (decide ((x4.ops.length : Int) < 1))) (by first | exact wanted_f rfl rfl rfl | exact wanted_vf rfl rfl rfl) ?_ ?_
        · intro hc Φ hΦ; (repeat (first | rw [vg_of hc] | rw [vg_of (and_l hc)] | rw [vg_of (and_l (and_l hc))] | rw [vg_of (and_l (and_l (and_l hc)))] | rw [vg_and hc])); refine O_bin rfl rfl rfl eqg_int r_lss ?_; exact hΦ
        (try simp only [PT])
        apply seq_op (V := .bool (((((decide (x4.kind < 1)) || (decide (x4.kind > 4))) || (decide (x4.proc < 0))) || (decide (x4.proc > 99))) || (decide ((x4.ops.length : Int) < 1)))) rfl
        · exact fun _ h => G_or _ _ _ rfl rfl rfl rfl h
        (try simp only [PT])
        apply seq_op (V := .bool (((((decide (x4.kind < 1)) || (decide (x4.kind > 4))) || (decide (x4.proc < 0))) || (decide (x4.proc > 99))) || (decide ((x4.ops.length : Int) < 1)))) rfl
        · exact fun _ h => O_mv rfl rfl h
        (try simp only [PT])
        refine seq_opg (c := (!(((((decide (x4.kind < 1)) || (decide (x4.kind > 4))) || (decide (x4.proc < 0))) || (decide (x4.proc > 99))) || (decide ((x4.ops.length : Int) < 1))))) (V := .pointer (some ⟨b4, 2, none⟩)) (by first | exact wanted_f rfl rfl rfl | exact wanted_vf rfl rfl rfl) ?_ ?_
        · intro hc Φ hΦ; refine O_fld rfl Tryd.underlying73 rfl (Tryd.sizeOf71 _) rfl ?_; exact hΦ
        (try simp only [PT])
        refine seq_opg (c := (!(((((decide (x4.kind < 1)) || (decide (x4.kind > 4))) || (decide (x4.proc < 0))) || (decide (x4.proc > 99))) || (decide ((x4.ops.length : Int) < 1))))) (V := .slice A2e1 x4.ops.length c2e1) (by first | exact wanted_f rfl rfl rfl | exact wanted_vf rfl rfl rfl) ?_ ?_
        · intro hc Φ hΦ; (repeat (first | rw [vg_of hc] | rw [vg_of (and_l hc)] | rw [vg_of (and_l (and_l hc))] | rw [vg_of (and_l (and_l (and_l hc)))] | rw [vg_and hc])); refine L_1 0 _ _ rfl (Tryd.isAgg71 _) rfl H rfl rfl ?_; exact hΦ
        (try simp only [PT])
        refine seq_opg (c := (!(((((decide (x4.kind < 1)) || (decide (x4.kind > 4))) || (decide (x4.proc < 0))) || (decide (x4.proc > 99))) || (decide ((x4.ops.length : Int) < 1))))) (V := .int .i64 (x4.ops.length : Int)) (by first | exact wanted_f rfl rfl rfl | exact wanted_vf rfl rfl rfl) ?_ ?_
        · intro hc Φ hΦ; (repeat (first | rw [vg_of hc] | rw [vg_of (and_l hc)] | rw [vg_of (and_l (and_l hc))] | rw [vg_of (and_l (and_l (and_l hc)))] | rw [vg_and hc])); refine O_len rfl Tryd.underlying71 rfl ?_; exact hΦ
        (try simp only [PT])
        refine seq_opg (c := (!(((((decide (x4.kind < 1)) || (decide (x4.kind > 4))) || (decide (x4.proc < 0))) || (decide (x4.proc > 99))) || (decide ((x4.ops.length : Int) < 1))))) (V := .bool (decide ((x4.ops.length : Int) > 8))) (by first | exact wanted_f rfl rfl rfl | exact wanted_vf rfl rfl rfl) ?_ ?_
        · intro hc Φ hΦ; (repeat (first | rw [vg_of hc] | rw [vg_of (and_l hc)] | rw [vg_of (and_l (and_l hc))] | rw [vg_of (and_l (and_l (and_l hc)))] | rw [vg_and hc])); refine O_bin rfl rfl rfl eqg_int r_gtr ?_; exact hΦ
        (try simp only [PT])
        apply seq_op (V := .bool ((((((decide (x4.kind < 1)) || (decide (x4.kind > 4))) || (decide (x4.proc < 0))) || (decide (x4.proc > 99))) || (decide ((x4.ops.length : Int) < 1))) || (decide ((x4.ops.length : Int) > 8)))) rfl
        · exact fun _ h => G_or _ _ _ rfl rfl rfl rfl h
        (try simp only [PT])
        refine list_end ?_
        refine then_norm ?_
        refine wp_cond_split rfl (fun hc => ?_) (fun hc => ?_)
        · have hc3 := hc
          clear hc
          replace hq4 := ifT hc3 hq4
          refine wp_seq ?_
          refine wp_region_lit ?_
          apply seq_op (V := .bool false) rfl
          · exact fun _ h => O_as rfl rfl h
          (try simp only [PT])
          refine list_end ?_
          refine then_norm ?_
          refine wp_ret ?_
          refine then_ret ?_
          refine block_ret ?_
          refine then_ret ?_
          refine then_ret ?_
          refine block_ret ?_
          refine then_ret ?_
          have hq4 := Option.some.inj hq4
          subst hq4
          (try dsimp only at hm)
          have hm := Option.some.inj hm
          subst hm
          replace H := H.dropAt 0 rfl; simp only [List.eraseIdx_cons_succ, List.eraseIdx_cons_zero] at H
          exact ret1 rfl (rv_tmp rfl) rfl ⟨rfl, H⟩
        · have hc3 := hc
          clear hc
          replace hq4 := ifF hc3 hq4
          refine wp_skip ?_
          refine then_norm ?_
          refine wp_seq ?_
          refine wp_region_lit ?_
          apply seq_op (V := .pointer (some ⟨b4, 2, none⟩)) rfl
          · exact fun _ h => O_fld rfl Tryd.underlying73 rfl (Tryd.sizeOf71 _) rfl h
          (try simp only [PT])
          apply seq_op (V := .slice A2e1 x4.ops.length c2e1) rfl
          · exact fun _ h => L_1 0 _ _ rfl (Tryd.isAgg71 _) rfl H rfl rfl h
          (try simp only [PT])
          apply seq_op (V := .int .i64 (x4.ops.length : Int)) rfl
          · exact fun _ h => O_len rfl Tryd.underlying71 rfl h
          (try simp only [PT])
          apply seq_op (V := .int .i64 0) rfl
          · exact fun _ h => O_mv rfl rfl h
          (try simp only [PT])
          refine list_end ?_
          refine then_norm ?_
          refine wp_block ?_
          obtain ⟨R9, hq9, hq4⟩ := bs hq4
          have hn9 := Nat.le_trans (len_le (d := kOp) h2e1 (by decide)) (by decide : (140737488355328 : Nat) ≤ 9223372036854775807)
          refine wp_loopF [none, none, some 2, none, none, none, some 6, none, none, none, none, none, none, none, none, none, none, none, none, none, none, none, none, none, none, none, none, none, none, none, none, none, none, none, none, none, none, none, none, none, none, none, none, none, none, none, none, none, none, some 49, some 50, some 51, some 52, some 53, some 54, some 55, some 56, none] rfl (by simp) (fun f w => ∃ (k9 : Nat) (r9 : List Op'), x4.ops.drop k9 = r9 ∧ f 49 = .int .i64 (k9 : Int) ∧ assayerref02_Can_l9 fuel k9 r9 = some R9 ∧ Holds E s (pt b4 (.cells #[.int .i64 x4.kind, .int .i64 x4.proc, .slice A2e1 x4.ops.length c2e1] 73 (0, 0)) :: L) w) (fun f w => x4.ops.length - (intOf (f 49)).toNat) ?_ ?_
          · exact ⟨0, x4.ops, rfl, rfl, hq9, H⟩
          · clear H
            intro f w hI
            obtain ⟨k9, r9, hd9, hf49, hq9', H⟩ := hI
            clear hq9; have hq9 := hq9'; clear hq9'
            simp only [ovm, mixM]
            simp only [hf49]; clear hf49
            refine wp_seq ?_
            refine wp_region_lit ?_
            apply seq_op (V := .bool (decide ((k9 : Int) < (x4.ops.length : Int)))) rfl
            · exact fun _ h => O_bin rfl rfl rfl eqg_int r_lss h
            (try simp only [PT])
            refine list_end ?_
            refine then_norm ?_
            refine wp_seq ?_
            refine wp_cond_split rfl (fun hc => ?_) (fun hc => ?_)
            · have hc4 := hc
              clear hc
              obtain ⟨x9, r9', rfl, hd9', hd9'', hl9⟩ := rng_t hd9 hc4
              rw [assayerref02_Can_l9] at hq9
              refine wp_skip ?_
              refine then_norm ?_
              refine wp_seq ?_
              refine wp_block ?_
              refine wp_seq ?_
              obtain ⟨be2, oe2, A3e2, c3e2, rfl, hCe2, h0e2, h1e2, h2e2, h3e2⟩ := kOp_el h2e1 hd9'
              refine wp_region_lit ?_
              apply seq_op (V := .pointer (some ⟨be2, oe2 + k9 * 6, none⟩)) rfl
              · exact fun _ h => O_ix rfl Tryd.underlying71 (Tryd.sizeOf108 _) rfl rfl rfl hl9 h
              (try simp only [PT])
              apply seq_op (V := .agg #[.int .i64 x9.kind, .string x9.key, .int .i64 x9.value, .slice A3e2 x9.list.length c3e2, .bool x9.has, .bool x9.isNil]) rfl
              · exact fun _ h => G_sN _ _ rfl (Tryd.isAgg108 _) rfl H hCe2 (Tryd.sizeOf108 _) h
              (try simp only [PT])
              refine OpG.list rfl ?_; refine G_alloc 108 rfl (Tryd.zeroValue108 _) H ?_; clear H; intro b6 w1 H; (try simp only [Value.cells] at H)
              (try simp only [PT])
              refine OpG.list rfl ?_; refine G_setNi 0 (c := [.int .i64 x9.kind, .string x9.key, .int .i64 x9.value, .slice A3e2 x9.list.length c3e2, .bool x9.has, .bool x9.isNil]) _ _ _ rfl (Tryd.sizeOf108 _) rfl rfl (by simp [Value.oneCell']) H rfl rfl ?_; clear H; intro w1 H; simp only [List.set_cons_succ, List.set_cons_zero] at H
              (try simp only [PT])
              refine list_end ?_
              refine then_norm ?_
              refine wp_seq ?_
              obtain ⟨u1, gx1, hq9⟩ := bs hq9
              refine wp_region_lit ?_
              apply seq_op (V := .agg #[.int .i64 x9.kind, .string x9.key, .int .i64 x9.value, .slice A3e2 x9.list.length c3e2, .bool x9.has, .bool x9.isNil]) rfl
              · exact fun _ h => G_pNi 0 _ _ rfl (Tryd.isAgg108 _) rfl H rfl (Tryd.sizeOf108 _) h
              (try simp only [PT])
              refine seq_call rfl (fun Φ hΦ => by refine O_call1 rfl Tryd.func125 rfl rfl rfl hΦ) (assayerref02_MayOp_w (fuel := fuel) (a0 := x9) (h_p0_list := h3e2) (hm := gx1) (H := H)) ?_
              clear H
              rintro e w1 ⟨rfl, H⟩; refine ⟨_, rfl, ?_⟩
              (try simp only [PT])
              apply seq_op (V := .bool (!u1)) rfl
              · exact fun _ h => O_not rfl rfl h
              (try simp only [PT])
              refine list_end ?_
              refine then_norm ?_
              refine wp_cond_split rfl (fun hc => ?_) (fun hc => ?_)
              · have hc5 := hc
                clear hc
                replace hq9 := ifT hc5 hq9
                refine wp_seq ?_
                refine wp_region_lit ?_
                apply seq_op (V := .bool false) rfl
                · exact fun _ h => O_as rfl rfl h
                (try simp only [PT])
                refine list_end ?_
                refine then_norm ?_
                refine wp_ret ?_
                refine block_ret ?_
                refine then_ret ?_
                refine then_ret ?_
                refine block_ret ?_
                refine block_ret ?_
                refine then_ret ?_
                refine then_ret ?_
                refine block_ret ?_
                refine then_ret ?_
                have hq9 := Option.some.inj hq9
                subst hq9
                (try dsimp only at hq4)
                have hq4 := Option.some.inj hq4
                subst hq4
                (try dsimp only at hm)
                have hm := Option.some.inj hm
                subst hm
                replace H := H.dropAt 1 rfl; simp only [List.eraseIdx_cons_succ, List.eraseIdx_cons_zero] at H
                replace H := H.dropAt 0 rfl; simp only [List.eraseIdx_cons_succ, List.eraseIdx_cons_zero] at H
                exact ret1 rfl (rv_tmp rfl) rfl ⟨rfl, H⟩
              · have hc5 := hc
                clear hc
                replace hq9 := ifF hc5 hq9
                refine wp_skip ?_
                refine block_norm ?_
                refine then_norm ?_
                refine wp_region_lit ?_
                apply seq_op (V := .int .i64 (IntKind.i64.wrap ((k9 : Int) + 1))) rfl
                · exact fun _ h => O_bin rfl rfl rfl eqg_int r_add h
                (try simp only [PT])
                apply seq_op (V := .int .i64 (IntKind.i64.wrap ((k9 : Int) + 1))) rfl
                · exact fun _ h => O_mv rfl rfl h
                (try simp only [PT])
                refine list_end ?_
                refine then_norm ?_
                replace H := H.drop
                refine ⟨⟨⟨rfl, rfl, rfl, rfl, rfl, rfl, rfl, rfl, rfl, rfl, rfl, rfl, rfl, rfl, rfl, rfl, rfl, rfl, rfl, rfl, rfl, rfl, rfl, rfl, rfl, rfl, rfl, rfl, rfl, rfl, rfl, rfl, rfl, rfl, rfl, rfl, rfl, rfl, rfl, rfl, rfl, rfl, rfl, rfl, rfl, rfl, rfl, rfl, rfl⟩, rfl⟩, ⟨k9 + 1, _, hd9'', wrap_succ hl9 hn9, hq9, H⟩, ?_⟩
                exact meas_succ hl9 hn9
            · have hc4 := hc
              clear hc
              obtain rfl := rng_f hd9 hc4
              rw [assayerref02_Can_l9] at hq9
              refine wp_exit ?_
              refine then_exit ?_
              refine then_exit ?_
              have hq9 := Option.some.inj hq9
              subst hq9
              (try dsimp only at hq4)
              refine block_exit ?_
              refine block_norm ?_
              refine then_norm ?_
              refine wp_region_lit ?_
              apply seq_op (V := .int .i64 (IntKind.i64.wrap ((k4 : Int) + 1))) rfl
              · exact fun _ h => O_bin rfl rfl rfl eqg_int r_add h
              (try simp only [PT])
              apply seq_op (V := .int .i64 (IntKind.i64.wrap ((k4 : Int) + 1))) rfl
              · exact fun _ h => O_mv rfl rfl h
              (try simp only [PT])
              refine list_end ?_
              refine then_norm ?_
              replace H := H.drop
              refine ⟨⟨⟨rfl, rfl, rfl, rfl, rfl, rfl, rfl, rfl, rfl, rfl⟩, rfl⟩, ⟨k4 + 1, _, hd4'', wrap_succ hl4 hn4, hq4, H⟩, ?_⟩
              exact meas_succ hl4 hn4
      · have hc2 := hc
        clear hc
        obtain rfl := rng_f hd4 hc2
        rw [assayerref02_Can_l4] at hq4
        refine wp_exit ?_
        refine then_exit ?_
        refine then_exit ?_
        have hq4 := Option.some.inj hq4
        subst hq4
        (try dsimp only at hm)
        refine block_exit ?_
        refine then_norm ?_
        refine wp_seq ?_
        refine wp_region_lit ?_
        apply seq_op (V := .bool true) rfl
        · exact fun _ h => O_as rfl rfl h
        (try simp only [PT])
        refine list_end ?_
        refine then_norm ?_
        refine wp_ret ?_
        have hm := Option.some.inj hm
        subst hm
        exact ret1 rfl (rv_tmp rfl) rfl ⟨rfl, H⟩
def assayerref03_filled_l2 (a1 : Bool) : Nat → List Op' → (Bool ⊕ Unit)
  | k2, []  => .inr ()
  | k2, x2 :: r2 => if (((x2.kind == 2) || (x2.kind == 4)) && (!(x2.has == a1))) = true then (.inl false) else (assayerref03_filled_l2 a1 (k2 + 1) r2)

def assayerref03_filled_f (a0 : List Op') (a1 : Bool) : Bool := letF (assayerref03_filled_l2 a1 0 a0) fun | .inl z2_r => z2_r | .inr () => true

set_option maxHeartbeats 4000000 in
theorem assayerref03_filled_w {E : World} {s : SH} {L : List HP} {w : World} {a0 : List Op'} {a1 : Bool} {A_p0 : Option Addr} {c_p0 : Nat} (h_p0 : kOp.Sl s (.slice A_p0 a0.length c_p0) a0) (H : Holds E s (L) w) :
    Calls Tryd.prog 126 #[.slice A_p0 a0.length c_p0, .bool a1] w fun e w' => e = .returned (.bool (assayerref03_filled_f a0 a1)) ∧ Holds E s (L) w' := by
  obtain ⟨R, hm⟩ : ∃ R, assayerref03_filled_f a0 a1 = R := ⟨_, rfl⟩
  (try rw [hm])
  unfold assayerref03_filled_f at hm
  go_enter Tryd.func126, Tryd.ntmps126
  refine wp_seq ?_
  refine wp_region_lit ?_
  apply seq_op (V := .bool false) rfl
  · exact fun _ h => O_as rfl rfl h
  (try simp only [PT])
  refine list_end ?_
  refine then_norm ?_
  refine wp_seq ?_
  refine wp_seq ?_
  refine wp_region_lit ?_
  apply seq_op (V := .slice A_p0 a0.length c_p0) rfl
  · exact fun _ h => O_mv rfl rfl h
  (try simp only [PT])
  apply seq_op (V := .int .i64 (a0.length : Int)) rfl
  · exact fun _ h => O_len rfl Tryd.underlying71 rfl h
  (try simp only [PT])
  apply seq_op (V := .int .i64 0) rfl
  · exact fun _ h => O_mv rfl rfl h
  (try simp only [PT])
  refine list_end ?_
  refine then_norm ?_
  refine wp_block ?_
  obtain ⟨R2, hq2, hm⟩ := lfe hm
  have hn2 := Nat.le_trans (len_le (d := kOp) h_p0 (by decide)) (by decide : (140737488355328 : Nat) ≤ 9223372036854775807)
  refine wp_loopF [none, none, none, none, some 4, none, some 6, none, none, some 9, some 10, some 11, some 12, some 13, some 14, some 15, some 16, some 17, some 18, some 19, some 20, some 21, some 22, some 23, some 24, some 25, some 26, some 27] rfl (by simp) (fun f w => ∃ (k2 : Nat) (r2 : List Op'), a0.drop k2 = r2 ∧ f 9 = .int .i64 (k2 : Int) ∧ assayerref03_filled_l2 a1 k2 r2 = R2 ∧ Holds E s (L) w) (fun f w => a0.length - (intOf (f 9)).toNat) ?_ ?_
  · exact ⟨0, a0, rfl, rfl, hq2, H⟩
  · clear H
    intro f w hI
    obtain ⟨k2, r2, hd2, hf9, hq2', H⟩ := hI
    clear hq2; have hq2 := hq2'; clear hq2'
    simp only [ovm, mixM]
    simp only [hf9]; clear hf9
    refine wp_seq ?_
    refine wp_region_lit ?_
    apply seq_op (V := .bool (decide ((k2 : Int) < (a0.length : Int)))) rfl
    · exact fun _ h => O_bin rfl rfl rfl eqg_int r_lss h
    (try simp only [PT])
    refine list_end ?_
    refine then_norm ?_
    refine wp_seq ?_
    refine wp_cond_split rfl (fun hc => ?_) (fun hc => ?_)
    · have hc1 := hc
      clear hc
      obtain ⟨x2, r2', rfl, hd2', hd2'', hl2⟩ := rng_t hd2 hc1
      rw [assayerref03_filled_l2] at hq2
      refine wp_skip ?_
      refine then_norm ?_
      refine wp_seq ?_
      refine wp_block ?_
      refine wp_seq ?_
      obtain ⟨be1, oe1, A3e1, c3e1, rfl, hCe1, h0e1, h1e1, h2e1, h3e1⟩ := kOp_el h_p0 hd2'
      refine wp_region_lit ?_
      apply seq_op (V := .pointer (some ⟨be1, oe1 + k2 * 6, none⟩)) rfl
      · exact fun _ h => O_ix rfl Tryd.underlying71 (Tryd.sizeOf108 _) rfl rfl rfl hl2 h
      (try simp only [PT])
      apply seq_op (V := .agg #[.int .i64 x2.kind, .string x2.key, .int .i64 x2.value, .slice A3e1 x2.list.length c3e1, .bool x2.has, .bool x2.isNil]) rfl
      · exact fun _ h => G_sN _ _ rfl (Tryd.isAgg108 _) rfl H hCe1 (Tryd.sizeOf108 _) h
      (try simp only [PT])
      refine OpG.list rfl ?_; refine G_alloc 108 rfl (Tryd.zeroValue108 _) H ?_; clear H; intro b6 w1 H; (try simp only [Value.cells] at H)
      (try simp only [PT])
      refine OpG.list rfl ?_; refine G_setNi 0 (c := [.int .i64 x2.kind, .string x2.key, .int .i64 x2.value, .slice A3e1 x2.list.length c3e1, .bool x2.has, .bool x2.isNil]) _ _ _ rfl (Tryd.sizeOf108 _) rfl rfl (by simp [Value.oneCell']) H rfl rfl ?_; clear H; intro w1 H; simp only [List.set_cons_succ, List.set_cons_zero] at H
      (try simp only [PT])
      refine list_end ?_
      refine then_norm ?_
      refine wp_seq ?_
      refine wp_region_lit ?_
      apply seq_op (V := .pointer (some ⟨b6, 0, none⟩)) rfl
      · exact fun _ h => O_fld rfl Tryd.underlying108 rfl (Tryd.sizeOf3 _) rfl h
      (try simp only [PT])
      apply seq_op (V := .int .i64 x2.kind) rfl
      · exact fun _ h => L_1 0 _ _ rfl (Tryd.isAgg3 _) rfl H rfl rfl h
      (try simp only [PT])
      apply seq_op (V := .bool (x2.kind == 2)) rfl
      · exact fun _ h => O_bin rfl rfl rfl eqg_int r_eql h
      (try simp only [PT])
      apply seq_op (V := .bool (x2.kind == 2)) rfl
      · exact fun _ h => O_mv rfl rfl h
      (try simp only [PT])
      refine seq_opg (c := (!(x2.kind == 2))) (V := .pointer (some ⟨b6, 0, none⟩)) (by first | exact wanted_f rfl rfl rfl | exact wanted_vf rfl rfl rfl) ?_ ?_
      · intro hc Φ hΦ; refine O_fld rfl Tryd.underlying108 rfl (Tryd.sizeOf3 _) rfl ?_; exact hΦ
      (try simp only [PT])
      refine seq_opg (c := (!(x2.kind == 2))) (V := .int .i64 x2.kind) (by first | exact wanted_f rfl rfl rfl | exact wanted_vf rfl rfl rfl) ?_ ?_
      · intro hc Φ hΦ; (repeat (first | rw [vg_of hc] | rw [vg_of (and_l hc)] | rw [vg_of (and_l (and_l hc))] | rw [vg_of (and_l (and_l (and_l hc)))] | rw [vg_and hc])); refine L_1 0 _ _ rfl (Tryd.isAgg3 _) rfl H rfl rfl ?_; exact hΦ
      (try simp only [PT])
      refine seq_opg (c := (!(x2.kind == 2))) (V := .bool (x2.kind == 4)) (by first | exact wanted_f rfl rfl rfl | exact wanted_vf rfl rfl rfl) ?_ ?_
      · intro hc Φ hΦ; (repeat (first | rw [vg_of hc] | rw [vg_of (and_l hc)] | rw [vg_of (and_l (and_l hc))] | rw [vg_of (and_l (and_l (and_l hc)))] | rw [vg_and hc])); refine O_bin rfl rfl rfl eqg_int r_eql ?_; exact hΦ
      (try simp only [PT])
      apply seq_op (V := .bool ((x2.kind == 2) || (x2.kind == 4))) rfl
      · exact fun _ h => G_or _ _ _ rfl rfl rfl rfl h
      (try simp only [PT])
      apply seq_op (V := .bool ((x2.kind == 2) || (x2.kind == 4))) rfl
      · exact fun _ h => O_mv rfl rfl h
      (try simp only [PT])
      refine seq_opg (c := ((x2.kind == 2) || (x2.kind == 4))) (V := .pointer (some ⟨b6, 4, none⟩)) (by first | exact wanted_t rfl rfl rfl | exact wanted_vt rfl rfl rfl) ?_ ?_
      · intro hc Φ hΦ; refine O_fld rfl Tryd.underlying108 rfl (Tryd.sizeOf4 _) rfl ?_; exact hΦ
      (try simp only [PT])
      refine seq_opg (c := ((x2.kind == 2) || (x2.kind == 4))) (V := .bool x2.has) (by first | exact wanted_t rfl rfl rfl | exact wanted_vt rfl rfl rfl) ?_ ?_
      · intro hc Φ hΦ; (repeat (first | rw [vg_of hc] | rw [vg_of (and_l hc)] | rw [vg_of (and_l (and_l hc))] | rw [vg_of (and_l (and_l (and_l hc)))] | rw [vg_and hc])); refine L_1 0 _ _ rfl (Tryd.isAgg4 _) rfl H rfl rfl ?_; exact hΦ
      (try simp only [PT])
      refine seq_opg (c := ((x2.kind == 2) || (x2.kind == 4))) (V := .bool a1) (by first | exact wanted_t rfl rfl rfl | exact wanted_vt rfl rfl rfl) ?_ ?_
      · intro hc Φ hΦ; refine O_mv rfl rfl ?_; exact hΦ
      (try simp only [PT])
      refine seq_opg (c := ((x2.kind == 2) || (x2.kind == 4))) (V := .bool (!(x2.has == a1))) (by first | exact wanted_t rfl rfl rfl | exact wanted_vt rfl rfl rfl) ?_ ?_
      · intro hc Φ hΦ; (repeat (first | rw [vg_of hc] | rw [vg_of (and_l hc)] | rw [vg_of (and_l (and_l hc))] | rw [vg_of (and_l (and_l (and_l hc)))] | rw [vg_and hc])); refine O_bin rfl rfl rfl eqg_bool (r_bne Tryd.underlying4) ?_; exact hΦ
      (try simp only [PT])
      apply seq_op (V := .bool (((x2.kind == 2) || (x2.kind == 4)) && (!(x2.has == a1)))) rfl
      · exact fun _ h => G_and _ _ _ rfl rfl rfl rfl h
      (try simp only [PT])
      refine list_end ?_
      refine then_norm ?_
      refine wp_cond_split rfl (fun hc => ?_) (fun hc => ?_)
      · have hc2 := hc
        clear hc
        replace hq2 := ifT hc2 hq2
        refine wp_seq ?_
        refine wp_region_lit ?_
        apply seq_op (V := .bool false) rfl
        · exact fun _ h => O_as rfl rfl h
        (try simp only [PT])
        refine list_end ?_
        refine then_norm ?_
        refine wp_ret ?_
        refine block_ret ?_
        refine then_ret ?_
        refine then_ret ?_
        refine block_ret ?_
        refine then_ret ?_
        subst hq2
        (try dsimp only at hm)
        subst hm
        replace H := H.dropAt 0 rfl; simp only [List.eraseIdx_cons_succ, List.eraseIdx_cons_zero] at H
        exact ret1 rfl (rv_tmp rfl) rfl ⟨rfl, H⟩
      · have hc2 := hc
        clear hc
        replace hq2 := ifF hc2 hq2
        refine wp_skip ?_
        refine block_norm ?_
        refine then_norm ?_
        refine wp_region_lit ?_
        apply seq_op (V := .int .i64 (IntKind.i64.wrap ((k2 : Int) + 1))) rfl
        · exact fun _ h => O_bin rfl rfl rfl eqg_int r_add h
        (try simp only [PT])
        apply seq_op (V := .int .i64 (IntKind.i64.wrap ((k2 : Int) + 1))) rfl
        · exact fun _ h => O_mv rfl rfl h
        (try simp only [PT])
        refine list_end ?_
        refine then_norm ?_
        replace H := H.drop
        refine ⟨⟨⟨rfl, rfl, rfl, rfl, rfl, rfl, rfl, rfl⟩, rfl⟩, ⟨k2 + 1, _, hd2'', wrap_succ hl2 hn2, hq2, H⟩, ?_⟩
        exact meas_succ hl2 hn2
    · have hc1 := hc
      clear hc
      obtain rfl := rng_f hd2 hc1
      rw [assayerref03_filled_l2] at hq2
      refine wp_exit ?_
      refine then_exit ?_
      refine then_exit ?_
      subst hq2
      (try dsimp only at hm)
      refine block_exit ?_
      refine then_norm ?_
      refine wp_seq ?_
      refine wp_region_lit ?_
      apply seq_op (V := .bool true) rfl
      · exact fun _ h => O_as rfl rfl h
      (try simp only [PT])
      refine list_end ?_
      refine then_norm ?_
      refine wp_ret ?_
      subst hm
      exact ret1 rfl (rv_tmp rfl) rfl ⟨rfl, H⟩
def assayerref03_completes_l4 (a1 : List Op') : Nat → List Op' → Option ((Bool ⊕ Unit))
  | k4, []  => some (.inr ())
  | k4, x4 :: r4 => (rdI a1 (k4 : Int)).bind fun u1 => if (((x4.kind != u1.kind) || (!(x4.key.toList == u1.key.toList))) || (((x4.kind == 1) || (x4.kind == 3)) && (x4.value != u1.value))) = true then (some (.inl false)) else (assayerref03_completes_l4 a1 (k4 + 1) r4)

def assayerref03_completes_f (a0 : List Op') (a1 : List Op') : Option Bool := if ((a0.length : Int) != (a1.length : Int)) = true then (some false) else ((assayerref03_completes_l4 a1 0 a0).bind fun | .inl z4_r => (some z4_r) | .inr () => (some true))

set_option maxHeartbeats 4000000 in
theorem assayerref03_completes_w {E : World} {s : SH} {L : List HP} {w : World} {a0 : List Op'} {a1 : List Op'} {A_p0 : Option Addr} {c_p0 : Nat} (h_p0 : kOp.Sl s (.slice A_p0 a0.length c_p0) a0) {A_p1 : Option Addr} {c_p1 : Nat} (h_p1 : kOp.Sl s (.slice A_p1 a1.length c_p1) a1) {R : Bool} (hm : assayerref03_completes_f a0 a1 = some R) (H : Holds E s (L) w) :
    Calls Tryd.prog 127 #[.slice A_p0 a0.length c_p0, .slice A_p1 a1.length c_p1] w fun e w' => e = .returned (.bool R) ∧ Holds E s (L) w' := by
  unfold assayerref03_completes_f at hm
  go_enter Tryd.func127, Tryd.ntmps127
  refine wp_seq ?_
  refine wp_region_lit ?_
  apply seq_op (V := .bool false) rfl
  · exact fun _ h => O_as rfl rfl h
  (try simp only [PT])
  refine list_end ?_
  refine then_norm ?_
  refine wp_seq ?_
  refine wp_seq ?_
  refine wp_region_lit ?_
  apply seq_op (V := .slice A_p0 a0.length c_p0) rfl
  · exact fun _ h => O_mv rfl rfl h
  (try simp only [PT])
  apply seq_op (V := .int .i64 (a0.length : Int)) rfl
  · exact fun _ h => O_len rfl Tryd.underlying71 rfl h
  (try simp only [PT])
  apply seq_op (V := .slice A_p1 a1.length c_p1) rfl
  · exact fun _ h => O_mv rfl rfl h
  (try simp only [PT])
  apply seq_op (V := .int .i64 (a1.length : Int)) rfl
  · exact fun _ h => O_len rfl Tryd.underlying71 rfl h
  (try simp only [PT])
  apply seq_op (V := .bool ((a0.length : Int) != (a1.length : Int))) rfl
  · exact fun _ h => O_bin rfl rfl rfl eqg_int r_neq h
  (try simp only [PT])
  refine list_end ?_
  refine then_norm ?_
  refine wp_cond_split rfl (fun hc => ?_) (fun hc => ?_)
  · have hc1 := hc
    clear hc
    replace hm := ifT hc1 hm
    refine wp_seq ?_
    refine wp_region_lit ?_
    apply seq_op (V := .bool false) rfl
    · exact fun _ h => O_as rfl rfl h
    (try simp only [PT])
    refine list_end ?_
    refine then_norm ?_
    refine wp_ret ?_
    refine then_ret ?_
    have hm := Option.some.inj hm
    subst hm
    exact ret1 rfl (rv_tmp rfl) rfl ⟨rfl, H⟩
  · have hc1 := hc
    clear hc
    replace hm := ifF hc1 hm
    refine wp_skip ?_
    refine then_norm ?_
    refine wp_seq ?_
    refine wp_seq ?_
    refine wp_region_lit ?_
    apply seq_op (V := .slice A_p0 a0.length c_p0) rfl
    · exact fun _ h => O_mv rfl rfl h
    (try simp only [PT])
    apply seq_op (V := .int .i64 (a0.length : Int)) rfl
    · exact fun _ h => O_len rfl Tryd.underlying71 rfl h
    (try simp only [PT])
    apply seq_op (V := .int .i64 0) rfl
    · exact fun _ h => O_mv rfl rfl h
    (try simp only [PT])
    refine list_end ?_
    refine then_norm ?_
    refine wp_block ?_
    obtain ⟨R4, hq4, hm⟩ := bs hm
    have hn4 := Nat.le_trans (len_le (d := kOp) h_p0 (by decide)) (by decide : (140737488355328 : Nat) ≤ 9223372036854775807)
    refine wp_loopF [none, none, none, none, some 4, some 5, some 6, none, none, none, none, none, none, none, some 14, some 15, some 16, some 17, some 18, some 19, some 20, some 21, some 22, some 23, some 24, some 25, some 26, some 27, some 28, some 29, some 30, some 31, some 32, some 33, some 34, some 35, some 36, some 37, some 38, some 39, some 40, some 41, some 42, some 43, some 44, some 45, some 46, some 47, some 48, some 49, some 50, some 51, some 52, some 53, some 54, some 55, some 56, some 57, some 58, some 59, some 60, some 61, some 62, some 63, some 64, some 65, some 66, some 67, some 68, some 69, some 70, some 71] rfl (by simp) (fun f w => ∃ (k4 : Nat) (r4 : List Op'), a0.drop k4 = r4 ∧ f 14 = .int .i64 (k4 : Int) ∧ assayerref03_completes_l4 a1 k4 r4 = some R4 ∧ Holds E s (L) w) (fun f w => a0.length - (intOf (f 14)).toNat) ?_ ?_
    · exact ⟨0, a0, rfl, rfl, hq4, H⟩
    · clear H
      intro f w hI
      obtain ⟨k4, r4, hd4, hf14, hq4', H⟩ := hI
      clear hq4; have hq4 := hq4'; clear hq4'
      simp only [ovm, mixM]
      simp only [hf14]; clear hf14
      refine wp_seq ?_
      refine wp_region_lit ?_
      apply seq_op (V := .bool (decide ((k4 : Int) < (a0.length : Int)))) rfl
      · exact fun _ h => O_bin rfl rfl rfl eqg_int r_lss h
      (try simp only [PT])
      refine list_end ?_
      refine then_norm ?_
      refine wp_seq ?_
      refine wp_cond_split rfl (fun hc => ?_) (fun hc => ?_)
      · have hc2 := hc
        clear hc
        obtain ⟨x4, r4', rfl, hd4', hd4'', hl4⟩ := rng_t hd4 hc2
        rw [assayerref03_completes_l4] at hq4
        refine wp_skip ?_
        refine then_norm ?_
        refine wp_seq ?_
        refine wp_block ?_
        refine wp_seq ?_
        refine wp_region_lit ?_
        apply seq_op (V := .int .i64 (k4 : Int)) rfl
        · exact fun _ h => O_mv rfl rfl h
        (try simp only [PT])
        apply seq_op (V := .int .i64 (k4 : Int)) rfl
        · exact fun _ h => O_as rfl rfl h
        (try simp only [PT])
        refine list_end ?_
        refine then_norm ?_
        refine wp_seq ?_
        obtain ⟨be1, oe1, A3e1, c3e1, rfl, hCe1, h0e1, h1e1, h2e1, h3e1⟩ := kOp_el h_p0 hd4'
        refine wp_region_lit ?_
        apply seq_op (V := .slice (some ⟨be1, oe1, none⟩) a0.length c_p0) rfl
        · exact fun _ h => O_mv rfl rfl h
        (try simp only [PT])
        apply seq_op (V := .int .i64 (k4 : Int)) rfl
        · exact fun _ h => O_mv rfl rfl h
        (try simp only [PT])
        apply seq_op (V := .pointer (some ⟨be1, oe1 + k4 * 6, none⟩)) rfl
        · exact fun _ h => O_ix rfl Tryd.underlying71 (Tryd.sizeOf108 _) rfl rfl rfl hl4 h
        (try simp only [PT])
        apply seq_op (V := .pointer (some ⟨be1, oe1 + k4 * 6, none⟩)) rfl
        · exact fun _ h => O_fld rfl Tryd.underlying108 rfl (Tryd.sizeOf3 _) rfl h
        (try simp only [PT])
        apply seq_op (V := .int .i64 x4.kind) rfl
        · exact fun _ h => G_s1 _ _ rfl (Tryd.isAgg3 _) rfl H hCe1 0 rfl rfl h
        (try simp only [PT])
        apply seq_op (V := .bool (x4.kind == 1)) rfl
        · exact fun _ h => O_bin rfl rfl rfl eqg_int r_eql h
        (try simp only [PT])
        apply seq_op (V := .bool (x4.kind == 1)) rfl
        · exact fun _ h => O_mv rfl rfl h
        (try simp only [PT])
        refine seq_opg (c := (!(x4.kind == 1))) (V := .slice (some ⟨be1, oe1, none⟩) a0.length c_p0) (by first | exact wanted_f rfl rfl rfl | exact wanted_vf rfl rfl rfl) ?_ ?_
        · intro hc Φ hΦ; refine O_mv rfl rfl ?_; exact hΦ
        (try simp only [PT])
        refine seq_opg (c := (!(x4.kind == 1))) (V := .int .i64 (k4 : Int)) (by first | exact wanted_f rfl rfl rfl | exact wanted_vf rfl rfl rfl) ?_ ?_
        · intro hc Φ hΦ; refine O_mv rfl rfl ?_; exact hΦ
        (try simp only [PT])
        refine seq_opg (c := (!(x4.kind == 1))) (V := .pointer (some ⟨be1, oe1 + k4 * 6, none⟩)) (by first | exact wanted_f rfl rfl rfl | exact wanted_vf rfl rfl rfl) ?_ ?_
        · intro hc Φ hΦ; (repeat (first | rw [vg_of hc] | rw [vg_of (and_l hc)] | rw [vg_of (and_l (and_l hc))] | rw [vg_of (and_l (and_l (and_l hc)))] | rw [vg_and hc])); refine O_ix rfl Tryd.underlying71 (Tryd.sizeOf108 _) rfl rfl rfl hl4 ?_; exact hΦ
        (try simp only [PT])
        refine seq_opg (c := (!(x4.kind == 1))) (V := .pointer (some ⟨be1, oe1 + k4 * 6, none⟩)) (by first | exact wanted_f rfl rfl rfl | exact wanted_vf rfl rfl rfl) ?_ ?_
        · intro hc Φ hΦ; (repeat (first | rw [vg_of hc] | rw [vg_of (and_l hc)] | rw [vg_of (and_l (and_l hc))] | rw [vg_of (and_l (and_l (and_l hc)))] | rw [vg_and hc])); refine O_fld rfl Tryd.underlying108 rfl (Tryd.sizeOf3 _) rfl ?_; exact hΦ
        (try simp only [PT])
        refine seq_opg (c := (!(x4.kind == 1))) (V := .int .i64 x4.kind) (by first | exact wanted_f rfl rfl rfl | exact wanted_vf rfl rfl rfl) ?_ ?_
        · intro hc Φ hΦ; (repeat (first | rw [vg_of hc] | rw [vg_of (and_l hc)] | rw [vg_of (and_l (and_l hc))] | rw [vg_of (and_l (and_l (and_l hc)))] | rw [vg_and hc])); refine G_s1 _ _ rfl (Tryd.isAgg3 _) rfl H hCe1 0 rfl rfl ?_; exact hΦ
        (try simp only [PT])
        refine seq_opg (c := (!(x4.kind == 1))) (V := .bool (x4.kind == 3)) (by first | exact wanted_f rfl rfl rfl | exact wanted_vf rfl rfl rfl) ?_ ?_
        · intro hc Φ hΦ; (repeat (first | rw [vg_of hc] | rw [vg_of (and_l hc)] | rw [vg_of (and_l (and_l hc))] | rw [vg_of (and_l (and_l (and_l hc)))] | rw [vg_and hc])); refine O_bin rfl rfl rfl eqg_int r_eql ?_; exact hΦ
        (try simp only [PT])
        apply seq_op (V := .bool ((x4.kind == 1) || (x4.kind == 3))) rfl
        · exact fun _ h => G_or _ _ _ rfl rfl rfl rfl h
        (try simp only [PT])
        apply seq_op (V := .bool ((x4.kind == 1) || (x4.kind == 3))) rfl
        · exact fun _ h => O_as rfl rfl h
        (try simp only [PT])
        refine list_end ?_
        refine then_norm ?_
        refine wp_seq ?_
        obtain ⟨u1, gx1, hq4⟩ := bs hq4
        obtain ⟨kk1, gk1, gl1, gd1⟩ := rdI_some gx1
        obtain ⟨be2, oe2, A3e2, c3e2, rfl, hCe2, h0e2, h1e2, h2e2, h3e2⟩ := kOp_el h_p1 gd1
        refine wp_draw_obO (k := 40) (sz := 72) (List.replicate 40 40) (fun _ => []) mixed (by simp) rfl (by kernel_rfl) (by kernel_rfl) (by kernel_rfl) H (by simp only [List.take_succ_cons, List.take_zero]; exact rfl) (by simp only [List.drop_succ_cons, List.drop_zero]; exact rfl)
          (fun y => by simp only [ov, Act.put, List.setIfInBounds_toArray, List.set_cons_succ, List.set_cons_zero, Nat.zero_add, Nat.reduceAdd]; exact rfl) ?_
        apply ObO.valw (V := .slice (some ⟨be1, oe1, none⟩) a0.length c_p0)
        · intro x; rfl
        · intro s' w' y Φ R hs H hG hΦ; refine wantG rfl ?_; refine O_mv rfl rfl ?_; exact hΦ _ _ (Sub.refl _) H
        apply ObO.valw (V := .int .i64 (k4 : Int))
        · intro x; rfl
        · intro s' w' y Φ R hs H hG hΦ; refine wantG rfl ?_; refine O_mv rfl rfl ?_; exact hΦ _ _ (Sub.refl _) H
        apply ObO.valw (V := .pointer (some ⟨be1, oe1 + k4 * 6, none⟩))
        · intro x; rfl
        · intro s' w' y Φ R hs H hG hΦ; simp only [List.nil_append, List.cons_append] at hG; have e0 : y 0 = _ := dh_get hG 0 rfl (by kernel_rfl); have e1 : y 1 = _ := dh_get hG 1 rfl (by kernel_rfl); simp only [e0, e1]; refine wantG rfl ?_; refine O_ix rfl Tryd.underlying71 (Tryd.sizeOf108 _) rfl rfl rfl hl4 ?_; exact hΦ _ _ (Sub.refl _) H
        apply ObO.valw (V := .pointer (some ⟨be1, oe1 + k4 * 6, none⟩))
        · intro x; rfl
        · intro s' w' y Φ R hs H hG hΦ; simp only [List.nil_append, List.cons_append] at hG; have e2 : y 2 = _ := dh_get hG 2 rfl (by kernel_rfl); simp only [e2]; refine wantG rfl ?_; refine O_fld rfl Tryd.underlying108 rfl (Tryd.sizeOf3 _) rfl ?_; exact hΦ _ _ (Sub.refl _) H
        apply ObO.valw (V := .int .i64 x4.kind)
        · intro x; rfl
        · intro s' w' y Φ R hs H hG hΦ; simp only [List.nil_append, List.cons_append] at hG; have e3 : y 3 = _ := dh_get hG 3 rfl (by kernel_rfl); simp only [e3]; refine wantG rfl ?_; refine G_s1 _ _ rfl (Tryd.isAgg3 _) rfl H (hCe1.mono hs) 0 rfl rfl ?_; exact hΦ _ _ (Sub.refl _) H
        apply ObO.valw (V := .slice (some ⟨be2, oe2, none⟩) a1.length c_p1)
        · intro x; rfl
        · intro s' w' y Φ R hs H hG hΦ; refine wantG rfl ?_; refine O_mv rfl rfl ?_; exact hΦ _ _ (Sub.refl _) H
        apply ObO.valw (V := .int .i64 (k4 : Int))
        · intro x; rfl
        · intro s' w' y Φ R hs H hG hΦ; refine wantG rfl ?_; refine O_mv rfl rfl ?_; exact hΦ _ _ (Sub.refl _) H
        apply ObO.valw (V := .pointer (some ⟨be2, oe2 + kk1 * 6, none⟩))
        · intro x; rfl
        · intro s' w' y Φ R hs H hG hΦ; simp only [List.nil_append, List.cons_append] at hG; have e5 : y 5 = _ := dh_get hG 5 rfl (by kernel_rfl); have e6 : y 6 = _ := dh_get hG 6 rfl (by kernel_rfl); simp only [e5, e6]; refine wantG rfl ?_; refine O_ix rfl Tryd.underlying71 (Tryd.sizeOf108 _) rfl rfl gk1 gl1 ?_; exact hΦ _ _ (Sub.refl _) H
        apply ObO.valw (V := .pointer (some ⟨be2, oe2 + kk1 * 6, none⟩))
        · intro x; rfl
        · intro s' w' y Φ R hs H hG hΦ; simp only [List.nil_append, List.cons_append] at hG; have e7 : y 7 = _ := dh_get hG 7 rfl (by kernel_rfl); simp only [e7]; refine wantG rfl ?_; refine O_fld rfl Tryd.underlying108 rfl (Tryd.sizeOf3 _) rfl ?_; exact hΦ _ _ (Sub.refl _) H
        apply ObO.valw (V := .int .i64 u1.kind)
        · intro x; rfl
        · intro s' w' y Φ R hs H hG hΦ; simp only [List.nil_append, List.cons_append] at hG; have e8 : y 8 = _ := dh_get hG 8 rfl (by kernel_rfl); simp only [e8]; refine wantG rfl ?_; refine G_s1 _ _ rfl (Tryd.isAgg3 _) rfl H (hCe2.mono hs) 0 rfl rfl ?_; exact hΦ _ _ (Sub.refl _) H
        apply ObO.valw (V := .bool (x4.kind != u1.kind))
        · intro x; rfl
        · intro s' w' y Φ R hs H hG hΦ; simp only [List.nil_append, List.cons_append] at hG; have e4 : y 4 = _ := dh_get hG 4 rfl (by kernel_rfl); have e9 : y 9 = _ := dh_get hG 9 rfl (by kernel_rfl); simp only [e4, e9]; refine wantG rfl ?_; refine O_bin rfl rfl rfl eqg_int r_neq ?_; exact hΦ _ _ (Sub.refl _) H
        apply ObO.valw (V := .bool (x4.kind != u1.kind))
        · intro x; rfl
        · intro s' w' y Φ R hs H hG hΦ; simp only [List.nil_append, List.cons_append] at hG; have e10 : y 10 = _ := dh_get hG 10 rfl (by kernel_rfl); simp only [e10]; refine wantG rfl ?_; refine O_mv rfl rfl ?_; exact hΦ _ _ (Sub.refl _) H
        apply ObO.valg (V := .slice (some ⟨be1, oe1, none⟩) a0.length c_p0) (c := !(x4.kind != u1.kind))
        · intro x; rfl
        · intro s' y hG; simp only [List.nil_append, List.cons_append] at hG; have eg : y 11 = _ := dh_get hG 11 rfl (by kernel_rfl); simp only [eg]; first | exact wanted_f rfl rfl rfl | exact wanted_vf rfl rfl rfl
        · intro hc s' w' y Φ R hs H hG hΦ; refine O_mv rfl rfl ?_; exact hΦ _ _ (Sub.refl _) H
        apply ObO.valg (V := .int .i64 (k4 : Int)) (c := !(x4.kind != u1.kind))
        · intro x; rfl
        · intro s' y hG; simp only [List.nil_append, List.cons_append] at hG; have eg : y 11 = _ := dh_get hG 11 rfl (by kernel_rfl); simp only [eg]; first | exact wanted_f rfl rfl rfl | exact wanted_vf rfl rfl rfl
        · intro hc s' w' y Φ R hs H hG hΦ; refine O_mv rfl rfl ?_; exact hΦ _ _ (Sub.refl _) H
        apply ObO.valg (V := .pointer (some ⟨be1, oe1 + k4 * 6, none⟩)) (c := !(x4.kind != u1.kind))
        · intro x; rfl
        · intro s' y hG; simp only [List.nil_append, List.cons_append] at hG; have eg : y 11 = _ := dh_get hG 11 rfl (by kernel_rfl); simp only [eg]; first | exact wanted_f rfl rfl rfl | exact wanted_vf rfl rfl rfl
        · intro hc s' w' y Φ R hs H hG hΦ; simp only [List.nil_append, List.cons_append] at hG; have e12 : y 12 = _ := dh_get hG 12 rfl (by kernel_rfl); have e13 : y 13 = _ := dh_get hG 13 rfl (by kernel_rfl); (first | rw [vg_of hc] at e12 | rw [vg_of (and_l hc)] at e12 | rw [vg_of (and_l (and_l hc))] at e12 | rw [vg_of (and_l (and_l (and_l hc)))] at e12 | rw [vg_and hc] at e12 | skip); (first | rw [vg_of hc] at e13 | rw [vg_of (and_l hc)] at e13 | rw [vg_of (and_l (and_l hc))] at e13 | rw [vg_of (and_l (and_l (and_l hc)))] at e13 | rw [vg_and hc] at e13 | skip); simp only [e12, e13]; refine O_ix rfl Tryd.underlying71 (Tryd.sizeOf108 _) rfl rfl rfl hl4 ?_; exact hΦ _ _ (Sub.refl _) H
        apply ObO.valg (V := .pointer (some ⟨be1, oe1 + k4 * 6 + 1, none⟩)) (c := !(x4.kind != u1.kind))
        · intro x; rfl
        · intro s' y hG; simp only [List.nil_append, List.cons_append] at hG; have eg : y 11 = _ := dh_get hG 11 rfl (by kernel_rfl); simp only [eg]; first | exact wanted_f rfl rfl rfl | exact wanted_vf rfl rfl rfl
        · intro hc s' w' y Φ R hs H hG hΦ; simp only [List.nil_append, List.cons_append] at hG; have e14 : y 14 = _ := dh_get hG 14 rfl (by kernel_rfl); (first | rw [vg_of hc] at e14 | rw [vg_of (and_l hc)] at e14 | rw [vg_of (and_l (and_l hc))] at e14 | rw [vg_of (and_l (and_l (and_l hc)))] at e14 | rw [vg_and hc] at e14 | skip); simp only [e14]; refine O_fld rfl Tryd.underlying108 rfl (Tryd.sizeOf9 _) rfl ?_; exact hΦ _ _ (Sub.refl _) H
        apply ObO.valg (V := .string x4.key) (c := !(x4.kind != u1.kind))
        · intro x; rfl
        · intro s' y hG; simp only [List.nil_append, List.cons_append] at hG; have eg : y 11 = _ := dh_get hG 11 rfl (by kernel_rfl); simp only [eg]; first | exact wanted_f rfl rfl rfl | exact wanted_vf rfl rfl rfl
        · intro hc s' w' y Φ R hs H hG hΦ; simp only [List.nil_append, List.cons_append] at hG; have e15 : y 15 = _ := dh_get hG 15 rfl (by kernel_rfl); (first | rw [vg_of hc] at e15 | rw [vg_of (and_l hc)] at e15 | rw [vg_of (and_l (and_l hc))] at e15 | rw [vg_of (and_l (and_l (and_l hc)))] at e15 | rw [vg_and hc] at e15 | skip); simp only [e15]; refine G_s1 _ _ rfl (Tryd.isAgg9 _) rfl H (hCe1.mono hs) 1 rfl rfl ?_; exact hΦ _ _ (Sub.refl _) H
        apply ObO.valg (V := .slice (some ⟨be2, oe2, none⟩) a1.length c_p1) (c := !(x4.kind != u1.kind))
        · intro x; rfl
        · intro s' y hG; simp only [List.nil_append, List.cons_append] at hG; have eg : y 11 = _ := dh_get hG 11 rfl (by kernel_rfl); simp only [eg]; first | exact wanted_f rfl rfl rfl | exact wanted_vf rfl rfl rfl
        · intro hc s' w' y Φ R hs H hG hΦ; refine O_mv rfl rfl ?_; exact hΦ _ _ (Sub.refl _) H
        apply ObO.valg (V := .int .i64 (k4 : Int)) (c := !(x4.kind != u1.kind))
        · intro x; rfl
        · intro s' y hG; simp only [List.nil_append, List.cons_append] at hG; have eg : y 11 = _ := dh_get hG 11 rfl (by kernel_rfl); simp only [eg]; first | exact wanted_f rfl rfl rfl | exact wanted_vf rfl rfl rfl
        · intro hc s' w' y Φ R hs H hG hΦ; refine O_mv rfl rfl ?_; exact hΦ _ _ (Sub.refl _) H
        apply ObO.valg (V := .pointer (some ⟨be2, oe2 + kk1 * 6, none⟩)) (c := !(x4.kind != u1.kind))
        · intro x; rfl
        · intro s' y hG; simp only [List.nil_append, List.cons_append] at hG; have eg : y 11 = _ := dh_get hG 11 rfl (by kernel_rfl); simp only [eg]; first | exact wanted_f rfl rfl rfl | exact wanted_vf rfl rfl rfl
        · intro hc s' w' y Φ R hs H hG hΦ; simp only [List.nil_append, List.cons_append] at hG; have e17 : y 17 = _ := dh_get hG 17 rfl (by kernel_rfl); have e18 : y 18 = _ := dh_get hG 18 rfl (by kernel_rfl); (first | rw [vg_of hc] at e17 | rw [vg_of (and_l hc)] at e17 | rw [vg_of (and_l (and_l hc))] at e17 | rw [vg_of (and_l (and_l (and_l hc)))] at e17 | rw [vg_and hc] at e17 | skip); (first | rw [vg_of hc] at e18 | rw [vg_of (and_l hc)] at e18 | rw [vg_of (and_l (and_l hc))] at e18 | rw [vg_of (and_l (and_l (and_l hc)))] at e18 | rw [vg_and hc] at e18 | skip); simp only [e17, e18]; refine O_ix rfl Tryd.underlying71 (Tryd.sizeOf108 _) rfl rfl gk1 gl1 ?_; exact hΦ _ _ (Sub.refl _) H
        apply ObO.valg (V := .pointer (some ⟨be2, oe2 + kk1 * 6 + 1, none⟩)) (c := !(x4.kind != u1.kind))
        · intro x; rfl
        · intro s' y hG; simp only [List.nil_append, List.cons_append] at hG; have eg : y 11 = _ := dh_get hG 11 rfl (by kernel_rfl); simp only [eg]; first | exact wanted_f rfl rfl rfl | exact wanted_vf rfl rfl rfl
        · intro hc s' w' y Φ R hs H hG hΦ; simp only [List.nil_append, List.cons_append] at hG; have e19 : y 19 = _ := dh_get hG 19 rfl (by kernel_rfl); (first | rw [vg_of hc] at e19 | rw [vg_of (and_l hc)] at e19 | rw [vg_of (and_l (and_l hc))] at e19 | rw [vg_of (and_l (and_l (and_l hc)))] at e19 | rw [vg_and hc] at e19 | skip); simp only [e19]; refine O_fld rfl Tryd.underlying108 rfl (Tryd.sizeOf9 _) rfl ?_; exact hΦ _ _ (Sub.refl _) H
        apply ObO.valg (V := .string u1.key) (c := !(x4.kind != u1.kind))
        · intro x; rfl
        · intro s' y hG; simp only [List.nil_append, List.cons_append] at hG; have eg : y 11 = _ := dh_get hG 11 rfl (by kernel_rfl); simp only [eg]; first | exact wanted_f rfl rfl rfl | exact wanted_vf rfl rfl rfl
        · intro hc s' w' y Φ R hs H hG hΦ; simp only [List.nil_append, List.cons_append] at hG; have e20 : y 20 = _ := dh_get hG 20 rfl (by kernel_rfl); (first | rw [vg_of hc] at e20 | rw [vg_of (and_l hc)] at e20 | rw [vg_of (and_l (and_l hc))] at e20 | rw [vg_of (and_l (and_l (and_l hc)))] at e20 | rw [vg_and hc] at e20 | skip); simp only [e20]; refine G_s1 _ _ rfl (Tryd.isAgg9 _) rfl H (hCe2.mono hs) 1 rfl rfl ?_; exact hΦ _ _ (Sub.refl _) H
        apply ObO.valg (V := .bool (!(x4.key.toList == u1.key.toList))) (c := !(x4.kind != u1.kind))
        · intro x; rfl
        · intro s' y hG; simp only [List.nil_append, List.cons_append] at hG; have eg : y 11 = _ := dh_get hG 11 rfl (by kernel_rfl); simp only [eg]; first | exact wanted_f rfl rfl rfl | exact wanted_vf rfl rfl rfl
        · intro hc s' w' y Φ R hs H hG hΦ; simp only [List.nil_append, List.cons_append] at hG; have e16 : y 16 = _ := dh_get hG 16 rfl (by kernel_rfl); have e21 : y 21 = _ := dh_get hG 21 rfl (by kernel_rfl); (first | rw [vg_of hc] at e16 | rw [vg_of (and_l hc)] at e16 | rw [vg_of (and_l (and_l hc))] at e16 | rw [vg_of (and_l (and_l (and_l hc)))] at e16 | rw [vg_and hc] at e16 | skip); (first | rw [vg_of hc] at e21 | rw [vg_of (and_l hc)] at e21 | rw [vg_of (and_l (and_l hc))] at e21 | rw [vg_of (and_l (and_l (and_l hc)))] at e21 | rw [vg_and hc] at e21 | skip); simp only [e16, e21]; refine O_bin rfl rfl rfl eqg_str r_sne ?_; exact hΦ _ _ (Sub.refl _) H
        apply ObO.valw (V := .bool ((x4.kind != u1.kind) || (!(x4.key.toList == u1.key.toList))))
        · intro x; rfl
        · intro s' w' y Φ R hs H hG hΦ; simp only [List.nil_append, List.cons_append] at hG; have e11 : y 11 = _ := dh_get hG 11 rfl (by kernel_rfl); have e22 : y 22 = _ := dh_get hG 22 rfl (by kernel_rfl); simp only [e11, e22]; refine wantG rfl ?_; refine G_or _ _ _ rfl rfl rfl rfl ?_; exact hΦ _ _ (Sub.refl _) H
        apply ObO.valw (V := .bool ((x4.kind != u1.kind) || (!(x4.key.toList == u1.key.toList))))
        · intro x; rfl
        · intro s' w' y Φ R hs H hG hΦ; simp only [List.nil_append, List.cons_append] at hG; have e23 : y 23 = _ := dh_get hG 23 rfl (by kernel_rfl); simp only [e23]; refine wantG rfl ?_; refine O_mv rfl rfl ?_; exact hΦ _ _ (Sub.refl _) H
        apply ObO.valg (V := .bool ((x4.kind == 1) || (x4.kind == 3))) (c := !((x4.kind != u1.kind) || (!(x4.key.toList == u1.key.toList))))
        · intro x; rfl
        · intro s' y hG; simp only [List.nil_append, List.cons_append] at hG; have eg : y 24 = _ := dh_get hG 24 rfl (by kernel_rfl); simp only [eg]; first | exact wanted_f rfl rfl rfl | exact wanted_vf rfl rfl rfl
        · intro hc s' w' y Φ R hs H hG hΦ; refine O_mv rfl rfl ?_; exact hΦ _ _ (Sub.refl _) H
        apply ObO.valg (V := .bool ((x4.kind == 1) || (x4.kind == 3))) (c := !((x4.kind != u1.kind) || (!(x4.key.toList == u1.key.toList))))
        · intro x; rfl
        · intro s' y hG; simp only [List.nil_append, List.cons_append] at hG; have eg : y 24 = _ := dh_get hG 24 rfl (by kernel_rfl); simp only [eg]; first | exact wanted_f rfl rfl rfl | exact wanted_vf rfl rfl rfl
        · intro hc s' w' y Φ R hs H hG hΦ; simp only [List.nil_append, List.cons_append] at hG; have e25 : y 25 = _ := dh_get hG 25 rfl (by kernel_rfl); (first | rw [vg_of hc] at e25 | rw [vg_of (and_l hc)] at e25 | rw [vg_of (and_l (and_l hc))] at e25 | rw [vg_of (and_l (and_l (and_l hc)))] at e25 | rw [vg_and hc] at e25 | skip); simp only [e25]; refine O_mv rfl rfl ?_; exact hΦ _ _ (Sub.refl _) H
        apply ObO.valg (V := .slice (some ⟨be1, oe1, none⟩) a0.length c_p0) (c := (!((x4.kind != u1.kind) || (!(x4.key.toList == u1.key.toList)))) && ((x4.kind == 1) || (x4.kind == 3)))
        · intro x; rfl
        · intro s' y hG; simp only [List.nil_append, List.cons_append] at hG; have eg : y 26 = _ := dh_get hG 26 rfl (by kernel_rfl); simp only [eg]; first | exact wanted_t rfl rfl rfl | exact wanted_vt rfl rfl rfl
        · intro hc s' w' y Φ R hs H hG hΦ; refine O_mv rfl rfl ?_; exact hΦ _ _ (Sub.refl _) H
        apply ObO.valg (V := .int .i64 (k4 : Int)) (c := (!((x4.kind != u1.kind) || (!(x4.key.toList == u1.key.toList)))) && ((x4.kind == 1) || (x4.kind == 3)))
        · intro x; rfl
        · intro s' y hG; simp only [List.nil_append, List.cons_append] at hG; have eg : y 26 = _ := dh_get hG 26 rfl (by kernel_rfl); simp only [eg]; first | exact wanted_t rfl rfl rfl | exact wanted_vt rfl rfl rfl
        · intro hc s' w' y Φ R hs H hG hΦ; refine O_mv rfl rfl ?_; exact hΦ _ _ (Sub.refl _) H
        apply ObO.valg (V := .pointer (some ⟨be1, oe1 + k4 * 6, none⟩)) (c := (!((x4.kind != u1.kind) || (!(x4.key.toList == u1.key.toList)))) && ((x4.kind == 1) || (x4.kind == 3)))
        · intro x; rfl
        · intro s' y hG; simp only [List.nil_append, List.cons_append] at hG; have eg : y 26 = _ := dh_get hG 26 rfl (by kernel_rfl); simp only [eg]; first | exact wanted_t rfl rfl rfl | exact wanted_vt rfl rfl rfl
        · intro hc s' w' y Φ R hs H hG hΦ; simp only [List.nil_append, List.cons_append] at hG; have e27 : y 27 = _ := dh_get hG 27 rfl (by kernel_rfl); have e28 : y 28 = _ := dh_get hG 28 rfl (by kernel_rfl); (first | rw [vg_of hc] at e27 | rw [vg_of (and_l hc)] at e27 | rw [vg_of (and_l (and_l hc))] at e27 | rw [vg_of (and_l (and_l (and_l hc)))] at e27 | rw [vg_and hc] at e27 | skip); (first | rw [vg_of hc] at e28 | rw [vg_of (and_l hc)] at e28 | rw [vg_of (and_l (and_l hc))] at e28 | rw [vg_of (and_l (and_l (and_l hc)))] at e28 | rw [vg_and hc] at e28 | skip); simp only [e27, e28]; refine O_ix rfl Tryd.underlying71 (Tryd.sizeOf108 _) rfl rfl rfl hl4 ?_; exact hΦ _ _ (Sub.refl _) H
        apply ObO.valg (V := .pointer (some ⟨be1, oe1 + k4 * 6 + 2, none⟩)) (c := (!((x4.kind != u1.kind) || (!(x4.key.toList == u1.key.toList)))) && ((x4.kind == 1) || (x4.kind == 3)))
        · intro x; rfl
        · intro s' y hG; simp only [List.nil_append, List.cons_append] at hG; have eg : y 26 = _ := dh_get hG 26 rfl (by kernel_rfl); simp only [eg]; first | exact wanted_t rfl rfl rfl | exact wanted_vt rfl rfl rfl
        · intro hc s' w' y Φ R hs H hG hΦ; simp only [List.nil_append, List.cons_append] at hG; have e29 : y 29 = _ := dh_get hG 29 rfl (by kernel_rfl); (first | rw [vg_of hc] at e29 | rw [vg_of (and_l hc)] at e29 | rw [vg_of (and_l (and_l hc))] at e29 | rw [vg_of (and_l (and_l (and_l hc)))] at e29 | rw [vg_and hc] at e29 | skip); simp only [e29]; refine O_fld rfl Tryd.underlying108 rfl (Tryd.sizeOf3 _) rfl ?_; exact hΦ _ _ (Sub.refl _) H
        apply ObO.valg (V := .int .i64 x4.value) (c := (!((x4.kind != u1.kind) || (!(x4.key.toList == u1.key.toList)))) && ((x4.kind == 1) || (x4.kind == 3)))
        · intro x; rfl
        · intro s' y hG; simp only [List.nil_append, List.cons_append] at hG; have eg : y 26 = _ := dh_get hG 26 rfl (by kernel_rfl); simp only [eg]; first | exact wanted_t rfl rfl rfl | exact wanted_vt rfl rfl rfl
        · intro hc s' w' y Φ R hs H hG hΦ; simp only [List.nil_append, List.cons_append] at hG; have e30 : y 30 = _ := dh_get hG 30 rfl (by kernel_rfl); (first | rw [vg_of hc] at e30 | rw [vg_of (and_l hc)] at e30 | rw [vg_of (and_l (and_l hc))] at e30 | rw [vg_of (and_l (and_l (and_l hc)))] at e30 | rw [vg_and hc] at e30 | skip); simp only [e30]; refine G_s1 _ _ rfl (Tryd.isAgg3 _) rfl H (hCe1.mono hs) 2 rfl rfl ?_; exact hΦ _ _ (Sub.refl _) H
        apply ObO.valg (V := .slice (some ⟨be2, oe2, none⟩) a1.length c_p1) (c := (!((x4.kind != u1.kind) || (!(x4.key.toList == u1.key.toList)))) && ((x4.kind == 1) || (x4.kind == 3)))
        · intro x; rfl
        · intro s' y hG; simp only [List.nil_append, List.cons_append] at hG; have eg : y 26 = _ := dh_get hG 26 rfl (by kernel_rfl); simp only [eg]; first | exact wanted_t rfl rfl rfl | exact wanted_vt rfl rfl rfl
        · intro hc s' w' y Φ R hs H hG hΦ; refine O_mv rfl rfl ?_; exact hΦ _ _ (Sub.refl _) H
        apply ObO.valg (V := .int .i64 (k4 : Int)) (c := (!((x4.kind != u1.kind) || (!(x4.key.toList == u1.key.toList)))) && ((x4.kind == 1) || (x4.kind == 3)))
        · intro x; rfl
        · intro s' y hG; simp only [List.nil_append, List.cons_append] at hG; have eg : y 26 = _ := dh_get hG 26 rfl (by kernel_rfl); simp only [eg]; first | exact wanted_t rfl rfl rfl | exact wanted_vt rfl rfl rfl
        · intro hc s' w' y Φ R hs H hG hΦ; refine O_mv rfl rfl ?_; exact hΦ _ _ (Sub.refl _) H
        apply ObO.valg (V := .pointer (some ⟨be2, oe2 + kk1 * 6, none⟩)) (c := (!((x4.kind != u1.kind) || (!(x4.key.toList == u1.key.toList)))) && ((x4.kind == 1) || (x4.kind == 3)))
        · intro x; rfl
        · intro s' y hG; simp only [List.nil_append, List.cons_append] at hG; have eg : y 26 = _ := dh_get hG 26 rfl (by kernel_rfl); simp only [eg]; first | exact wanted_t rfl rfl rfl | exact wanted_vt rfl rfl rfl
        · intro hc s' w' y Φ R hs H hG hΦ; simp only [List.nil_append, List.cons_append] at hG; have e32 : y 32 = _ := dh_get hG 32 rfl (by kernel_rfl); have e33 : y 33 = _ := dh_get hG 33 rfl (by kernel_rfl); (first | rw [vg_of hc] at e32 | rw [vg_of (and_l hc)] at e32 | rw [vg_of (and_l (and_l hc))] at e32 | rw [vg_of (and_l (and_l (and_l hc)))] at e32 | rw [vg_and hc] at e32 | skip); (first | rw [vg_of hc] at e33 | rw [vg_of (and_l hc)] at e33 | rw [vg_of (and_l (and_l hc))] at e33 | rw [vg_of (and_l (and_l (and_l hc)))] at e33 | rw [vg_and hc] at e33 | skip); simp only [e32, e33]; refine O_ix rfl Tryd.underlying71 (Tryd.sizeOf108 _) rfl rfl gk1 gl1 ?_; exact hΦ _ _ (Sub.refl _) H
        apply ObO.valg (V := .pointer (some ⟨be2, oe2 + kk1 * 6 + 2, none⟩)) (c := (!((x4.kind != u1.kind) || (!(x4.key.toList == u1.key.toList)))) && ((x4.kind == 1) || (x4.kind == 3)))
        · intro x; rfl
        · intro s' y hG; simp only [List.nil_append, List.cons_append] at hG; have eg : y 26 = _ := dh_get hG 26 rfl (by kernel_rfl); simp only [eg]; first | exact wanted_t rfl rfl rfl | exact wanted_vt rfl rfl rfl
        · intro hc s' w' y Φ R hs H hG hΦ; simp only [List.nil_append, List.cons_append] at hG; have e34 : y 34 = _ := dh_get hG 34 rfl (by kernel_rfl); (first | rw [vg_of hc] at e34 | rw [vg_of (and_l hc)] at e34 | rw [vg_of (and_l (and_l hc))] at e34 | rw [vg_of (and_l (and_l (and_l hc)))] at e34 | rw [vg_and hc] at e34 | skip); simp only [e34]; refine O_fld rfl Tryd.underlying108 rfl (Tryd.sizeOf3 _) rfl ?_; exact hΦ _ _ (Sub.refl _) H
        apply ObO.valg (V := .int .i64 u1.value) (c := (!((x4.kind != u1.kind) || (!(x4.key.toList == u1.key.toList)))) && ((x4.kind == 1) || (x4.kind == 3)))
        · intro x; rfl
        · intro s' y hG; simp only [List.nil_append, List.cons_append] at hG; have eg : y 26 = _ := dh_get hG 26 rfl (by kernel_rfl); simp only [eg]; first | exact wanted_t rfl rfl rfl | exact wanted_vt rfl rfl rfl
        · intro hc s' w' y Φ R hs H hG hΦ; simp only [List.nil_append, List.cons_append] at hG; have e35 : y 35 = _ := dh_get hG 35 rfl (by kernel_rfl); (first | rw [vg_of hc] at e35 | rw [vg_of (and_l hc)] at e35 | rw [vg_of (and_l (and_l hc))] at e35 | rw [vg_of (and_l (and_l (and_l hc)))] at e35 | rw [vg_and hc] at e35 | skip); simp only [e35]; refine G_s1 _ _ rfl (Tryd.isAgg3 _) rfl H (hCe2.mono hs) 2 rfl rfl ?_; exact hΦ _ _ (Sub.refl _) H
        apply ObO.valg (V := .bool (x4.value != u1.value)) (c := (!((x4.kind != u1.kind) || (!(x4.key.toList == u1.key.toList)))) && ((x4.kind == 1) || (x4.kind == 3)))
        · intro x; rfl
        · intro s' y hG; simp only [List.nil_append, List.cons_append] at hG; have eg : y 26 = _ := dh_get hG 26 rfl (by kernel_rfl); simp only [eg]; first | exact wanted_t rfl rfl rfl | exact wanted_vt rfl rfl rfl
        · intro hc s' w' y Φ R hs H hG hΦ; simp only [List.nil_append, List.cons_append] at hG; have e31 : y 31 = _ := dh_get hG 31 rfl (by kernel_rfl); have e36 : y 36 = _ := dh_get hG 36 rfl (by kernel_rfl); (first | rw [vg_of hc] at e31 | rw [vg_of (and_l hc)] at e31 | rw [vg_of (and_l (and_l hc))] at e31 | rw [vg_of (and_l (and_l (and_l hc)))] at e31 | rw [vg_and hc] at e31 | skip); (first | rw [vg_of hc] at e36 | rw [vg_of (and_l hc)] at e36 | rw [vg_of (and_l (and_l hc))] at e36 | rw [vg_of (and_l (and_l (and_l hc)))] at e36 | rw [vg_and hc] at e36 | skip); simp only [e31, e36]; refine O_bin rfl rfl rfl eqg_int r_neq ?_; exact hΦ _ _ (Sub.refl _) H
        apply ObO.valg (V := .bool (((x4.kind == 1) || (x4.kind == 3)) && (x4.value != u1.value))) (c := !((x4.kind != u1.kind) || (!(x4.key.toList == u1.key.toList))))
        · intro x; rfl
        · intro s' y hG; simp only [List.nil_append, List.cons_append] at hG; have eg : y 24 = _ := dh_get hG 24 rfl (by kernel_rfl); simp only [eg]; first | exact wanted_f rfl rfl rfl | exact wanted_vf rfl rfl rfl
        · intro hc s' w' y Φ R hs H hG hΦ; simp only [List.nil_append, List.cons_append] at hG; have e26 : y 26 = _ := dh_get hG 26 rfl (by kernel_rfl); have e37 : y 37 = _ := dh_get hG 37 rfl (by kernel_rfl); (first | rw [vg_of hc] at e26 | rw [vg_of (and_l hc)] at e26 | rw [vg_of (and_l (and_l hc))] at e26 | rw [vg_of (and_l (and_l (and_l hc)))] at e26 | rw [vg_and hc] at e26 | skip); (first | rw [vg_of hc] at e37 | rw [vg_of (and_l hc)] at e37 | rw [vg_of (and_l (and_l hc))] at e37 | rw [vg_of (and_l (and_l (and_l hc)))] at e37 | rw [vg_and hc] at e37 | skip); simp only [e26, e37]; refine G_and _ _ _ rfl rfl rfl rfl ?_; exact hΦ _ _ (Sub.refl _) H
        apply ObO.valw (V := .bool (((x4.kind != u1.kind) || (!(x4.key.toList == u1.key.toList))) || (((x4.kind == 1) || (x4.kind == 3)) && (x4.value != u1.value))))
        · intro x; rfl
        · intro s' w' y Φ R hs H hG hΦ; simp only [List.nil_append, List.cons_append] at hG; have e24 : y 24 = _ := dh_get hG 24 rfl (by kernel_rfl); have e38 : y 38 = _ := dh_get hG 38 rfl (by kernel_rfl); simp only [e24, e38]; refine wantG rfl ?_; refine G_or _ _ _ rfl rfl rfl rfl ?_; exact hΦ _ _ (Sub.refl _) H
        clear H
        intro s3 w3 yy hs3 H hG
        replace H := (show Holds _ _ ([] ++ _) _ from H); rw [List.nil_append] at H
        simp only [List.nil_append, List.cons_append] at hG
        have e0 : yy 0 = _ := gh_get hG 0 rfl
        have e1 : yy 1 = _ := gh_get hG 1 rfl
        have e2 : yy 2 = _ := gh_get hG 2 rfl
        have e3 : yy 3 = _ := gh_get hG 3 rfl
        have e4 : yy 4 = _ := gh_get hG 4 rfl
        have e5 : yy 5 = _ := gh_get hG 5 rfl
        have e6 : yy 6 = _ := gh_get hG 6 rfl
        have e7 : yy 7 = _ := gh_get hG 7 rfl
        have e8 : yy 8 = _ := gh_get hG 8 rfl
        have e9 : yy 9 = _ := gh_get hG 9 rfl
        have e10 : yy 10 = _ := gh_get hG 10 rfl
        have e11 : yy 11 = _ := gh_get hG 11 rfl
        have e12 : yy 12 = _ := gh_get hG 12 rfl
        have e13 : yy 13 = _ := gh_get hG 13 rfl
        have e14 : yy 14 = _ := gh_get hG 14 rfl
        have e15 : yy 15 = _ := gh_get hG 15 rfl
        have e16 : yy 16 = _ := gh_get hG 16 rfl
        have e17 : yy 17 = _ := gh_get hG 17 rfl
        have e18 : yy 18 = _ := gh_get hG 18 rfl
        have e19 : yy 19 = _ := gh_get hG 19 rfl
        have e20 : yy 20 = _ := gh_get hG 20 rfl
        have e21 : yy 21 = _ := gh_get hG 21 rfl
        have e22 : yy 22 = _ := gh_get hG 22 rfl
        have e23 : yy 23 = _ := gh_get hG 23 rfl
        have e24 : yy 24 = _ := gh_get hG 24 rfl
        have e25 : yy 25 = _ := gh_get hG 25 rfl
        have e26 : yy 26 = _ := gh_get hG 26 rfl
        have e27 : yy 27 = _ := gh_get hG 27 rfl
        have e28 : yy 28 = _ := gh_get hG 28 rfl
        have e29 : yy 29 = _ := gh_get hG 29 rfl
        have e30 : yy 30 = _ := gh_get hG 30 rfl
        have e31 : yy 31 = _ := gh_get hG 31 rfl
        have e32 : yy 32 = _ := gh_get hG 32 rfl
        have e33 : yy 33 = _ := gh_get hG 33 rfl
        have e34 : yy 34 = _ := gh_get hG 34 rfl
        have e35 : yy 35 = _ := gh_get hG 35 rfl
        have e36 : yy 36 = _ := gh_get hG 36 rfl
        have e37 : yy 37 = _ := gh_get hG 37 rfl
        have e38 : yy 38 = _ := gh_get hG 38 rfl
        have e39 : yy 39 = _ := gh_get hG 39 rfl
        simp only [e0, e1, e2, e3, e4, e5, e6, e7, e8, e9, e10, e11, e12, e13, e14, e15, e16, e17, e18, e19, e20, e21, e22, e23, e24, e25, e26, e27, e28, e29, e30, e31, e32, e33, e34, e35, e36, e37, e38, e39]
        clear hG e0 e1 e2 e3 e4 e5 e6 e7 e8 e9 e10 e11 e12 e13 e14 e15 e16 e17 e18 e19 e20 e21 e22 e23 e24 e25 e26 e27 e28 e29 e30 e31 e32 e33 e34 e35 e36 e37 e38 e39
        replace H := H.forget hs3; clear hs3
        refine list_end ?_
        refine then_norm ?_
        refine wp_cond_split rfl (fun hc => ?_) (fun hc => ?_)
        · have hc3 := hc
          clear hc
          replace hq4 := ifT hc3 hq4
          refine wp_seq ?_
          refine wp_region_lit ?_
          apply seq_op (V := .bool false) rfl
          · exact fun _ h => O_as rfl rfl h
          (try simp only [PT])
          refine list_end ?_
          refine then_norm ?_
          refine wp_ret ?_
          refine block_ret ?_
          refine then_ret ?_
          refine then_ret ?_
          refine block_ret ?_
          refine then_ret ?_
          have hq4 := Option.some.inj hq4
          subst hq4
          (try dsimp only at hm)
          have hm := Option.some.inj hm
          subst hm
          exact ret1 rfl (rv_tmp rfl) rfl ⟨rfl, H⟩
        · have hc3 := hc
          clear hc
          replace hq4 := ifF hc3 hq4
          refine wp_skip ?_
          refine block_norm ?_
          refine then_norm ?_
          refine wp_region_lit ?_
          apply seq_op (V := .int .i64 (IntKind.i64.wrap ((k4 : Int) + 1))) rfl
          · exact fun _ h => O_bin rfl rfl rfl eqg_int r_add h
          (try simp only [PT])
          apply seq_op (V := .int .i64 (IntKind.i64.wrap ((k4 : Int) + 1))) rfl
          · exact fun _ h => O_mv rfl rfl h
          (try simp only [PT])
          refine list_end ?_
          refine then_norm ?_
          refine ⟨⟨⟨rfl, rfl, rfl, rfl, rfl, rfl, rfl, rfl, rfl, rfl, rfl, rfl⟩, rfl⟩, ⟨k4 + 1, _, hd4'', wrap_succ hl4 hn4, hq4, H⟩, ?_⟩
          exact meas_succ hl4 hn4
      · have hc2 := hc
        clear hc
        obtain rfl := rng_f hd4 hc2
        rw [assayerref03_completes_l4] at hq4
        refine wp_exit ?_
        refine then_exit ?_
        refine then_exit ?_
        have hq4 := Option.some.inj hq4
        subst hq4
        (try dsimp only at hm)
        refine block_exit ?_
        refine then_norm ?_
        refine wp_seq ?_
        refine wp_region_lit ?_
        apply seq_op (V := .bool true) rfl
        · exact fun _ h => O_as rfl rfl h
        (try simp only [PT])
        refine list_end ?_
        refine then_norm ?_
        refine wp_ret ?_
        have hm := Option.some.inj hm
        subst hm
        exact ret1 rfl (rv_tmp rfl) rfl ⟨rfl, H⟩
end Go.Proofs.YtemdmpgekegfhaaDoor
