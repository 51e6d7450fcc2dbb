/- Walks, printed by fx.py: part 1. -/
import Derived.Test.YtemdmpgekegfhaaDoorRfb1
import Derived.Test.YtemdmpgekegfhaaDoorTx1
namespace Go.Proofs.YtemdmpgekegfhaaDoor
open Go.RowKit
set_option linter.all false
set_option maxRecDepth 10000
def assayerlaw16_behind_f (fuel : Nat) (a0 : List Op') : Option (MSt × St16) := (model_State_Apply_f model_New_f a0 true).bind fun u1 => (assayerref16_State_Apply_f fuel (⟨[]⟩ : St16) a0 true).bind fun u2 => some ((⟨u1.2.lists, u1.2.regs⟩ : MSt), (⟨u2.2.l⟩ : St16))

set_option maxHeartbeats 4000000 in
theorem assayerlaw16_behind_w {E : World} {s : SH} {L : List HP} {w : World} {fuel : Nat} {a0 : List Op'} {A_p0 : Option Addr} {c_p0 : Nat} (h_p0 : kOp.Sl s (.slice A_p0 a0.length c_p0) a0) {R : MSt × St16} (hm : assayerlaw16_behind_f fuel a0 = some R) (H : Holds E s (L) w) :
    Calls Tryd.prog 38 #[.slice A_p0 a0.length c_p0] w fun e w' => ∃ b0 r0_lists r0_regs b1 A1_l c1_l n1_l, e = .returned (.tuple #[.pointer (some ⟨b0, 0, none⟩), .pointer (some ⟨b1, 0, none⟩)]) ∧ Holds E s (pt b0 (.cells #[.map (some r0_lists), .map (some r0_regs)] 91 (0, 0)) :: mpO kcS kI s r0_lists R.1.lists :: mpF kcS vcI r0_regs R.1.regs :: pt b1 (.cells #[.slice A1_l n1_l c1_l] 143 (0, 0)) :: (kOp.sh s).Osl (.slice A1_l n1_l c1_l) R.2.l :: L) w' := by
  unfold assayerlaw16_behind_f at hm
  go_enter Tryd.func38, Tryd.ntmps38
  refine wp_seq ?_
  refine wp_region_lit ?_
  apply seq_op (V := .pointer none) rfl
  · exact fun _ h => O_as rfl rfl h
  (try simp only [PT])
  apply seq_op (V := .pointer none) rfl
  · exact fun _ h => O_as rfl rfl h
  (try simp only [PT])
  refine list_end ?_
  refine then_norm ?_
  refine wp_seq ?_
  refine wp_region_lit ?_
  refine seq_call rfl (fun Φ hΦ => by refine O_call0 rfl Tryd.func46 rfl rfl  hΦ) (model_New_w  (H := H)) ?_
  clear H
  rintro e w1 ⟨br10, rr10_lists, rr10_regs, rfl, H⟩; refine ⟨_, rfl, ?_⟩
  (try simp only [PT])
  apply seq_op (V := .agg #[.slice none 0 0]) rfl
  · exact fun _ h => O_bld (cs := [.slice none 0 0]) rfl (by kernel_rfl) h
  (try simp only [PT])
  refine OpG.list rfl ?_; refine B_x 143 _ rfl (v := .agg #[.slice none 0 0]) rfl H ?_; clear H; intro b8 w1 H; (try simp only [Value.cells] at H)
  (try simp only [PT])
  replace H := Kin.Osl.nil (d := kOp.sh s) H
  apply seq_op (V := .pointer (some ⟨br10, 0, none⟩)) rfl
  · exact fun _ h => O_as rfl rfl h
  (try simp only [PT])
  apply seq_op (V := .pointer (some ⟨b8, 0, none⟩)) rfl
  · exact fun _ h => O_as rfl rfl h
  (try simp only [PT])
  refine list_end ?_
  refine then_norm ?_
  refine wp_seq ?_
  obtain ⟨u1, gx1, hm⟩ := bs hm
  refine wp_region_lit ?_
  apply seq_op (V := .pointer (some ⟨br10, 0, none⟩)) rfl
  · exact fun _ h => O_mv rfl rfl h
  (try simp only [PT])
  apply seq_op (V := .slice A_p0 a0.length c_p0) rfl
  · exact fun _ h => O_mv rfl rfl h
  (try simp only [PT])
  replace H := H.front 4 rfl; simp only [List.eraseIdx_cons_succ, List.eraseIdx_cons_zero] at H
  replace H := H.front 4 rfl; simp only [List.eraseIdx_cons_succ, List.eraseIdx_cons_zero] at H
  replace H := H.front 4 rfl; simp only [List.eraseIdx_cons_succ, List.eraseIdx_cons_zero] at H
  refine seq_call rfl (fun Φ hΦ => by refine O_call3 rfl Tryd.func42 rfl rfl rfl rfl rfl hΦ) (model_State_Apply_w (a0 := model_New_f) (a1 := a0) (h_p1 := h_p0) (a2 := true) (hm := gx1) (H := H)) ?_
  clear H
  rintro e w1 ⟨rr2o0_lists, rr2o0_regs, rfl, H⟩; refine ⟨_, rfl, ?_⟩
  (try simp only [PT])
  refine list_end ?_
  refine then_norm ?_
  refine wp_seq ?_
  obtain ⟨u2, gx2, hm⟩ := bs hm
  refine wp_region_lit ?_
  apply seq_op (V := .pointer (some ⟨b8, 0, none⟩)) rfl
  · exact fun _ h => O_mv rfl rfl h
  (try simp only [PT])
  apply seq_op (V := .slice A_p0 a0.length c_p0) rfl
  · exact fun _ h => O_mv rfl rfl h
  (try simp only [PT])
  replace H := H.front 3 rfl; simp only [List.eraseIdx_cons_succ, List.eraseIdx_cons_zero] at H
  replace H := H.front 4 rfl; simp only [List.eraseIdx_cons_succ, List.eraseIdx_cons_zero] at H
  refine seq_call rfl (fun Φ hΦ => by refine O_call3 rfl Tryd.func43 rfl rfl rfl rfl rfl hΦ) (assayerref16_State_Apply_w (fuel := fuel) (a0 := (⟨[]⟩ : St16)) (a1 := a0) (h_p1 := h_p0) (a2 := true) (hm := gx2) (H := H)) ?_
  clear H
  rintro e w1 ⟨Ar3o0_l, cr3o0_l, nr3o0_l, rfl, H⟩; refine ⟨_, rfl, ?_⟩
  obtain rfl := osl_len 1 H rfl
  (try simp only [PT])
  refine list_end ?_
  refine then_norm ?_
  refine wp_seq ?_
  refine wp_region_lit ?_
  apply seq_op (V := .pointer (some ⟨br10, 0, none⟩)) rfl
  · exact fun _ h => O_mv rfl rfl h
  (try simp only [PT])
  apply seq_op (V := .pointer (some ⟨b8, 0, none⟩)) rfl
  · exact fun _ h => O_mv rfl rfl h
  (try simp only [PT])
  apply seq_op (V := .pointer (some ⟨br10, 0, none⟩)) rfl
  · exact fun _ h => O_as rfl rfl h
  (try simp only [PT])
  apply seq_op (V := .pointer (some ⟨b8, 0, none⟩)) rfl
  · exact fun _ h => O_as rfl rfl h
  (try simp only [PT])
  refine list_end ?_
  refine then_norm ?_
  refine wp_ret ?_
  have hm := Option.some.inj hm
  subst hm
  replace H := H.front 1 rfl; simp only [List.eraseIdx_cons_succ, List.eraseIdx_cons_zero] at H
  replace H := H.front 1 rfl; simp only [List.eraseIdx_cons_succ, List.eraseIdx_cons_zero] at H
  replace H := H.front 4 rfl; simp only [List.eraseIdx_cons_succ, List.eraseIdx_cons_zero] at H
  replace H := H.front 4 rfl; simp only [List.eraseIdx_cons_succ, List.eraseIdx_cons_zero] at H
  replace H := H.front 4 rfl; simp only [List.eraseIdx_cons_succ, List.eraseIdx_cons_zero] at H
  exact ret2 rfl (rv_tmp rfl) (rv_tmp rfl) rfl ⟨br10, rr2o0_lists, rr2o0_regs, b8, Ar3o0_l, cr3o0_l, u2.2.l.length, rfl, H⟩
def assayerref16_State_Same_l2 (fuel : Nat) (u2 : List Op') (a0 : St16) (a1 : St16) : Nat → Nat → Option ((Bool ⊕ Unit))
  | k2, 0 => some (.inr ())
  | k2, r2 + 1 => (rdI u2 (k2 : Int)).bind fun u3 => (assayerref16_State_Value_f fuel a0 u3.key).bind fun u4 => (assayerref16_State_Value_f fuel a1 u3.key).bind fun u5 => if (u4.1 != u5.1) = true then (some (.inl false)) else (if (!(u4.2 == u5.2)) = true then (some (.inl false)) else ((assayerref16_State_List_f a0 u3.key).bind fun u37201 => (assayerref16_State_List_f a1 u3.key).bind fun u37601 => (assayerref02_SameList_f u37201 u37601).bind fun u37701 => if (!u37701) = true then (some (.inl false)) else (assayerref16_State_Same_l2 fuel u2 a0 a1 (k2 + 1) r2)))

def assayerref16_State_Same_f (fuel : Nat) (a0 : St16) (a1 : St16) : Option Bool := (appL 64 [] a0.l).bind fun u1 => (appL 64 u1 a1.l).bind fun u2 => (assayerref16_State_Same_l2 fuel u2 a0 a1 0 ((u2.length : Int)).toNat).bind fun | .inl z2_r => (some z2_r) | .inr () => (some true)

set_option maxHeartbeats 4000000 in
theorem assayerref16_State_Same_w {E : World} {s : SH} {L : List HP} {w : World} {fuel : Nat} {a0 : St16} {a1 : St16} {A_p0_l : Option Addr} {c_p0_l : Nat} (h_p0_l : kOp.Sl s (.slice A_p0_l a0.l.length c_p0_l) a0.l) {b_p0 o_p0 : Nat} (hC_p0 : Cells s ⟨b_p0, o_p0, none⟩ [.slice A_p0_l a0.l.length c_p0_l]) {A_p1_l : Option Addr} {c_p1_l : Nat} (h_p1_l : kOp.Sl s (.slice A_p1_l a1.l.length c_p1_l) a1.l) {b_p1 o_p1 : Nat} (hC_p1 : Cells s ⟨b_p1, o_p1, none⟩ [.slice A_p1_l a1.l.length c_p1_l]) {R : Bool} (hm : assayerref16_State_Same_f fuel a0 a1 = some R) (H : Holds E s (L) w) :
    Calls Tryd.prog 40 #[.pointer (some ⟨b_p0, o_p0, none⟩), .pointer (some ⟨b_p1, o_p1, none⟩)] w fun e w' => e = .returned (.bool R) ∧ Holds E s (L) w' := by
  unfold assayerref16_State_Same_f at hm
  go_enter Tryd.func40, Tryd.ntmps40
  refine wp_seq ?_
  refine wp_region_lit ?_
  apply seq_op (V := .bool false) rfl
  · exact fun _ h => O_as rfl rfl h
  (try simp only [PT])
  refine list_end ?_
  refine then_norm ?_
  refine wp_seq ?_
  refine wp_seq ?_
  obtain ⟨u1, gx1, hm⟩ := bs hm
  obtain ⟨hroomgx1, egx1⟩ := appL_some gx1
  obtain ⟨u2, gx2, hm⟩ := bs hm
  obtain ⟨hroomgx2, egx2⟩ := appL_some gx2
  refine wp_draw_C (k := 13) (sz := 62) [0, 5, 10, 11] [undef, .pointer (some ⟨b_p0, o_p0, none⟩), .pointer (some ⟨b_p0, o_p0, none⟩), .pointer (some ⟨b_p0, o_p0, none⟩), .slice A_p0_l a0.l.length c_p0_l, undef, .pointer (some ⟨b_p1, o_p1, none⟩), .pointer (some ⟨b_p1, o_p1, none⟩), .pointer (some ⟨b_p1, o_p1, none⟩), .slice A_p1_l a1.l.length c_p1_l, undef, undef, .int .i64 0] [] [fun w x => ∃ (Av1 : Option Addr) (cv1 : Nat), x 0 = .slice Av1 (([] : List Op').length) cv1 ∧ Holds E s ((kOp.sh s).Osl (.slice Av1 (([] : List Op').length) cv1) [] :: L) w, fun w x => ∃ (Av1 : Option Addr) (cv1 : Nat) (Av2 : Option Addr) (cv2 : Nat), x 0 = .slice Av1 (([] : List Op').length) cv1 ∧ x 5 = .slice Av2 u1.length cv2 ∧ Holds E s ((kOp.sh s).Osl (.slice Av2 u1.length cv2) u1 :: L) w, fun w x => ∃ (Av1 : Option Addr) (cv1 : Nat) (Av2 : Option Addr) (cv2 : Nat) (Av3 : Option Addr) (cv3 : Nat), x 0 = .slice Av1 (([] : List Op').length) cv1 ∧ x 5 = .slice Av2 u1.length cv2 ∧ x 10 = .slice Av3 u2.length cv3 ∧ Holds E s ((kOp.sh s).Osl (.slice Av3 u2.length cv3) u2 :: L) w, fun w x => ∃ (Av1 : Option Addr) (cv1 : Nat) (Av2 : Option Addr) (cv2 : Nat) (Av3 : Option Addr) (cv3 : Nat), x 0 = .slice Av1 (([] : List Op').length) cv1 ∧ x 5 = .slice Av2 u1.length cv2 ∧ x 10 = .slice Av3 u2.length cv3 ∧ x 11 = .int .i64 (u2.length : Int) ∧ Holds E s ((kOp.sh s).Osl (.slice Av3 u2.length cv3) u2 :: L) w] mixed (by simp) rfl (by kernel_rfl) (by kernel_rfl) (by kernel_rfl) (by simp) rfl H (by simp only [List.take_succ_cons, List.take_zero]; exact rfl) (by simp only [List.drop_succ_cons, List.drop_zero]; exact rfl)
    (fun x => by simp only [ov, Act.put, List.setIfInBounds_toArray, List.set_cons_succ, List.set_cons_zero, Nat.zero_add, Nat.reduceAdd]; exact rfl) ?_ ?_ ?_ ?_
  · refine ⟨?_, ?_, ?_, ?_, ?_, trivial⟩
    · intro w x hS; have H : Holds E s (L) w := hS; exact ⟨_, _, Sub.refl _, H⟩
    · intro w x hS; obtain ⟨Av1, cv1, e0, H⟩ := hS; exact ⟨_, _, Sub.refl _, H⟩
    · intro w x hS; obtain ⟨Av1, cv1, Av2, cv2, e0, e5, H⟩ := hS; exact ⟨_, _, Sub.refl _, H⟩
    · intro w x hS; obtain ⟨Av1, cv1, Av2, cv2, Av3, cv3, e0, e5, e10, H⟩ := hS; exact ⟨_, _, Sub.refl _, H⟩
    · intro w x hS; obtain ⟨Av1, cv1, Av2, cv2, Av3, cv3, e0, e5, e10, e11, H⟩ := hS; exact ⟨_, _, Sub.refl _, H⟩
  · refine ⟨?_, ?_, ?_, ?_, ?_, ?_, ?_, ?_, ?_, ?_, ?_, ?_, ?_, trivial⟩
    · exact .inl (by decide)
    · refine .inr ?_; intro s' R w' x Φ hs H hx hΦ; refine wantG rfl ?_; refine O_mv rfl rfl ?_; exact hΦ
    · refine .inr ?_; intro s' R w' x Φ hs H hx hΦ; have e1 : x 1 = .pointer (some ⟨b_p0, o_p0, none⟩) := hx 1 (by decide) (by decide); simp only [e1]; refine wantG rfl ?_; refine O_nil rfl rfl ?_; exact hΦ
    · refine .inr ?_; intro s' R w' x Φ hs H hx hΦ; have e2 : x 2 = .pointer (some ⟨b_p0, o_p0, none⟩) := hx 2 (by decide) (by decide); simp only [e2]; refine wantG rfl ?_; refine O_fld rfl Tryd.underlying143 rfl (Tryd.sizeOf71 _) rfl ?_; exact hΦ
    · refine .inr ?_; intro s' R w' x Φ hs H hx hΦ; have e3 : x 3 = .pointer (some ⟨b_p0, o_p0, none⟩) := hx 3 (by decide) (by decide); simp only [e3]; refine wantG rfl ?_; refine G_s1 _ _ rfl (Tryd.isAgg71 _) rfl H (hC_p0.mono hs) 0 rfl rfl ?_; exact hΦ
    · exact .inl (by decide)
    · refine .inr ?_; intro s' R w' x Φ hs H hx hΦ; refine wantG rfl ?_; refine O_mv rfl rfl ?_; exact hΦ
    · refine .inr ?_; intro s' R w' x Φ hs H hx hΦ; have e6 : x 6 = .pointer (some ⟨b_p1, o_p1, none⟩) := hx 6 (by decide) (by decide); simp only [e6]; refine wantG rfl ?_; refine O_nil rfl rfl ?_; exact hΦ
    · refine .inr ?_; intro s' R w' x Φ hs H hx hΦ; have e7 : x 7 = .pointer (some ⟨b_p1, o_p1, none⟩) := hx 7 (by decide) (by decide); simp only [e7]; refine wantG rfl ?_; refine O_fld rfl Tryd.underlying143 rfl (Tryd.sizeOf71 _) rfl ?_; exact hΦ
    · refine .inr ?_; intro s' R w' x Φ hs H hx hΦ; have e8 : x 8 = .pointer (some ⟨b_p1, o_p1, none⟩) := hx 8 (by decide) (by decide); simp only [e8]; refine wantG rfl ?_; refine G_s1 _ _ rfl (Tryd.isAgg71 _) rfl H (hC_p1.mono hs) 0 rfl rfl ?_; exact hΦ
    · exact .inl (by decide)
    · exact .inl (by decide)
    · refine .inr ?_; intro s' R w' x Φ hs H hx hΦ; refine wantG rfl ?_; refine O_mv rfl rfl ?_; exact hΦ
  · refine ⟨?_, ?_, ?_, ?_, trivial⟩
    · intro o ho; obtain rfl := Option.some.inj ho; intro w' x Φ hS hx hΦ
      have H : Holds E s (L) w' := hS; clear hS
      refine wantG rfl ?_
      refine G_slice0 (d := kOp.sh s) rfl Tryd.underlying71 Tryd.sizeOf108 H ?_; clear H; intro v1 w1 H; obtain ⟨Av1, cv1, rfl, -⟩ := H.len
      exact hΦ _ _ ⟨Av1, cv1, updV_same, H⟩
    · intro o ho; obtain rfl := Option.some.inj ho; intro w' x Φ hS hx hΦ
      obtain ⟨Av1, cv1, e0, H⟩ := hS
      have e4 : x 4 = .slice A_p0_l a0.l.length c_p0_l := hx 4 (by decide) (by decide)
      simp only [e0, e4]
      refine wantG rfl ?_
      refine G_appendS kOp_at _ _ rfl H h_p0_l rfl rfl hroomgx1 ?_; clear H; intro v2 w1 H; rw [← egx1] at H; obtain ⟨Av2, cv2, rfl, -⟩ := H.len
      exact hΦ _ _ ⟨Av1, cv1, Av2, cv2, (updV_ne (by decide)).trans e0, updV_same, H⟩
    · intro o ho; obtain rfl := Option.some.inj ho; intro w' x Φ hS hx hΦ
      obtain ⟨Av1, cv1, Av2, cv2, e0, e5, H⟩ := hS
      have e9 : x 9 = .slice A_p1_l a1.l.length c_p1_l := hx 9 (by decide) (by decide)
      simp only [e5, e9]
      refine wantG rfl ?_
      refine G_appendS kOp_at _ _ rfl H h_p1_l rfl rfl hroomgx2 ?_; clear H; intro v3 w1 H; rw [← egx2] at H; obtain ⟨Av3, cv3, rfl, -⟩ := H.len
      exact hΦ _ _ ⟨Av1, cv1, Av2, cv2, Av3, cv3, (updV_ne (by decide)).trans e0, (updV_ne (by decide)).trans e5, updV_same, H⟩
    · intro o ho; obtain rfl := Option.some.inj ho; intro w' x Φ hS hx hΦ
      obtain ⟨Av1, cv1, Av2, cv2, Av3, cv3, e0, e5, e10, H⟩ := hS
      simp only [e10]
      refine wantG rfl ?_
      refine O_len rfl Tryd.underlying71 rfl ?_
      exact hΦ _ _ ⟨Av1, cv1, Av2, cv2, Av3, cv3, (updV_ne (by decide)).trans e0, (updV_ne (by decide)).trans e5, (updV_ne (by decide)).trans e10, updV_same, H⟩
  · clear H
    intro w' x hS hx
    obtain ⟨Av1, cv1, Av2, cv2, Av3, cv3, e0, e5, e10, e11, H⟩ := hS
    have e1 : x 1 = .pointer (some ⟨b_p0, o_p0, none⟩) := hx 1 (by decide) (by decide)
    have e2 : x 2 = .pointer (some ⟨b_p0, o_p0, none⟩) := hx 2 (by decide) (by decide)
    have e3 : x 3 = .pointer (some ⟨b_p0, o_p0, none⟩) := hx 3 (by decide) (by decide)
    have e4 : x 4 = .slice A_p0_l a0.l.length c_p0_l := hx 4 (by decide) (by decide)
    have e6 : x 6 = .pointer (some ⟨b_p1, o_p1, none⟩) := hx 6 (by decide) (by decide)
    have e7 : x 7 = .pointer (some ⟨b_p1, o_p1, none⟩) := hx 7 (by decide) (by decide)
    have e8 : x 8 = .pointer (some ⟨b_p1, o_p1, none⟩) := hx 8 (by decide) (by decide)
    have e9 : x 9 = .slice A_p1_l a1.l.length c_p1_l := hx 9 (by decide) (by decide)
    have e12 : x 12 = .int .i64 0 := hx 12 (by decide) (by decide)
    simp only [e0, e1, e2, e3, e4, e5, e6, e7, e8, e9, e10, e11, e12]
    clear hx
    refine list_end ?_
    refine then_norm ?_
    refine wp_block ?_
    obtain ⟨R2, hq2, hm⟩ := bs hm
    have hn2 := int_le (osl_i 0 H rfl (Nat.zero_lt_succ 63))
    refine wp_loopF [none, none, none, none, some 4, none, some 6, some 7, some 8, some 9, some 10, none, none, none, none, none, none, none, none, none, none, none, none, some 23, some 24, some 25, some 26, some 27, some 28, some 29, some 30, some 31, some 32, some 33, some 34, some 35, some 36, some 37, some 38, some 39, some 40, some 41, some 42, some 43, some 44, some 45, some 46, some 47, some 48, some 49, some 50, some 51, some 52, some 53, some 54, some 55, some 56, some 57, some 58, some 59, some 60, some 61] rfl (by simp) (fun f w => ∃ (k2 : Nat) (r2 : Nat) (sL2 : SH), Sub s sL2 ∧ k2 + r2 = ((u2.length : Int)).toNat ∧ f 23 = .int .i64 (k2 : Int) ∧ assayerref16_State_Same_l2 fuel u2 a0 a1 k2 r2 = some R2 ∧ Holds E sL2 ((kOp.sh sL2).Osl (.slice Av3 u2.length cv3) u2 :: L) w) (fun f w => ((u2.length : Int)).toNat - (intOf (f 23)).toNat) ?_ ?_
    · exact ⟨0, _, s, Sub.refl _, Nat.zero_add _, rfl, hq2, H⟩
    · clear H
      intro f w hI
      obtain ⟨k2, r2, sL2, hs2, hd2, hf23, hq2', H⟩ := hI
      clear hq2; have hq2 := hq2'; clear hq2'
      simp only [ovm, mixM]
      simp only [hf23]; clear hf23
      replace h_p0_l := h_p0_l.mono hs2
      replace hC_p0 := hC_p0.mono hs2
      replace h_p1_l := h_p1_l.mono hs2
      replace hC_p1 := hC_p1.mono hs2
      have hS := hs2
      refine wp_seq ?_
      refine wp_region_lit ?_
      apply seq_op (V := .bool (decide ((k2 : Int) < (u2.length : Int)))) rfl
      · exact fun _ h => O_bin rfl rfl rfl eqg_int r_lss h
      (try simp only [PT])
      refine list_end ?_
      refine then_norm ?_
      refine wp_seq ?_
      refine wp_cond_split rfl (fun hc => ?_) (fun hc => ?_)
      · have hc1 := hc
        clear hc
        obtain ⟨r2', rfl, hl2, hd2''⟩ := irng_t hd2 hc1
        rw [assayerref16_State_Same_l2] at hq2
        refine wp_skip ?_
        refine then_norm ?_
        refine wp_seq ?_
        refine wp_block ?_
        refine wp_seq ?_
        obtain ⟨u3, gx3, hq2⟩ := bs hq2
        obtain ⟨kk1, gk1, gl1, gd1⟩ := rdI_some gx3
        obtain ⟨bokk1, rfl⟩ := own_addr 0 H rfl (fun e => by rw [e] at gl1; exact absurd gl1 (Nat.not_lt_zero _))
        obtain ⟨cse1, hKe1⟩ := own_has 0 H rfl gd1; obtain ⟨_, _, -, h0e1, h1e1, h2e1, -⟩ := kOp_op hKe1
        refine wp_region_lit ?_
        apply seq_op (V := .pointer (some ⟨bokk1, kk1 * 6, none⟩)) rfl
        · exact fun _ h => O_ixn rfl Tryd.underlying71 (Tryd.sizeOf108 _) rfl rfl gk1 gl1 h
        (try simp only [PT])
        refine OpG.list rfl ?_; refine G_owngetN (d := kOp) 0 _ _ rfl (Tryd.isAgg108 _) (Tryd.sizeOf108 _) rfl rfl H rfl gd1 ?_; intro cs hK; obtain ⟨A3o1, c3o1, rfl, -, -, -, h3o1⟩ := kOp_op hK
        (try simp only [PT])
        refine OpG.list rfl ?_; refine G_alloc 108 rfl (Tryd.zeroValue108 _) H ?_; clear H; intro b6 w1 H; (try simp only [Value.cells] at H)
        (try simp only [PT])
        refine OpG.list rfl ?_; refine G_setNi 0 (c := [.int .i64 u3.kind, .string u3.key, .int .i64 u3.value, .slice A3o1 u3.list.length c3o1, .bool u3.has, .bool u3.isNil]) _ _ _ rfl (Tryd.sizeOf108 _) rfl rfl (by simp [Value.oneCell']) H rfl rfl ?_; clear H; intro w1 H; simp only [List.set_cons_succ, List.set_cons_zero] at H
        (try simp only [PT])
        refine list_end ?_
        refine then_norm ?_
        refine wp_seq ?_
        obtain ⟨u4, gx4, hq2⟩ := bs hq2
        refine wp_region_lit ?_
        apply seq_op (V := .pointer (some ⟨b_p0, o_p0, none⟩)) rfl
        · exact fun _ h => O_mv rfl rfl h
        (try simp only [PT])
        apply seq_op (V := .pointer (some ⟨b6, 1, none⟩)) rfl
        · exact fun _ h => O_fld rfl Tryd.underlying108 rfl (Tryd.sizeOf9 _) rfl h
        (try simp only [PT])
        apply seq_op (V := .string u3.key) rfl
        · exact fun _ h => L_1 0 _ _ rfl (Tryd.isAgg9 _) rfl H rfl rfl h
        (try simp only [PT])
        refine seq_call rfl (fun Φ hΦ => by refine O_call2 rfl Tryd.func90 rfl rfl rfl rfl hΦ) (assayerref16_State_Value_w (fuel := fuel) (a0 := a0) (hC_p0 := hC_p0) (h_p0_l := h_p0_l) (a1 := u3.key) (hm := gx4) (H := H)) ?_
        clear H
        rintro e w1 ⟨rfl, H⟩; refine ⟨_, rfl, ?_⟩
        (try simp only [PT])
        apply seq_op (V := .tuple #[.int .i64 u4.1, .bool u4.2]) rfl
        · exact fun _ h => O_mv rfl rfl h
        (try simp only [PT])
        apply seq_op (V := .int .i64 u4.1) rfl
        · exact fun _ h => O_ext rfl rfl rfl h
        (try simp only [PT])
        apply seq_op (V := .bool u4.2) rfl
        · exact fun _ h => O_ext rfl rfl rfl h
        (try simp only [PT])
        apply seq_op (V := .int .i64 u4.1) rfl
        · exact fun _ h => O_as rfl rfl h
        (try simp only [PT])
        apply seq_op (V := .bool u4.2) rfl
        · exact fun _ h => O_as rfl rfl h
        (try simp only [PT])
        refine list_end ?_
        refine then_norm ?_
        refine wp_seq ?_
        obtain ⟨u5, gx5, hq2⟩ := bs hq2
        refine wp_region_lit ?_
        apply seq_op (V := .pointer (some ⟨b_p1, o_p1, none⟩)) rfl
        · exact fun _ h => O_mv rfl rfl h
        (try simp only [PT])
        apply seq_op (V := .pointer (some ⟨b6, 1, none⟩)) rfl
        · exact fun _ h => O_fld rfl Tryd.underlying108 rfl (Tryd.sizeOf9 _) rfl h
        (try simp only [PT])
        apply seq_op (V := .string u3.key) rfl
        · exact fun _ h => L_1 0 _ _ rfl (Tryd.isAgg9 _) rfl H rfl rfl h
        (try simp only [PT])
        refine seq_call rfl (fun Φ hΦ => by refine O_call2 rfl Tryd.func90 rfl rfl rfl rfl hΦ) (assayerref16_State_Value_w (fuel := fuel) (a0 := a1) (hC_p0 := hC_p1) (h_p0_l := h_p1_l) (a1 := u3.key) (hm := gx5) (H := H)) ?_
        clear H
        rintro e w1 ⟨rfl, H⟩; refine ⟨_, rfl, ?_⟩
        (try simp only [PT])
        apply seq_op (V := .tuple #[.int .i64 u5.1, .bool u5.2]) rfl
        · exact fun _ h => O_mv rfl rfl h
        (try simp only [PT])
        apply seq_op (V := .int .i64 u5.1) rfl
        · exact fun _ h => O_ext rfl rfl rfl h
        (try simp only [PT])
        apply seq_op (V := .bool u5.2) rfl
        · exact fun _ h => O_ext rfl rfl rfl h
        (try simp only [PT])
        apply seq_op (V := .int .i64 u5.1) rfl
        · exact fun _ h => O_as rfl rfl h
        (try simp only [PT])
        apply seq_op (V := .bool u5.2) rfl
        · exact fun _ h => O_as rfl rfl h
        (try simp only [PT])
        refine list_end ?_
        refine then_norm ?_
        refine wp_seq ?_
        rcases Bool.eq_false_or_eq_true (u4.1 != u5.1) with hg1 | hg1
        · replace hq2 := ifT hg1 hq2
          refine wp_draw_P (k := 20) (sz := 62) [] [[]] [] [.int .i64 u4.1, .int .i64 u5.1, .bool (u4.1 != u5.1), .bool (u4.1 != u5.1), undef, undef, undef, .bool true, .bool true, undef, undef, undef, undef, undef, undef, undef, undef, undef, undef, .bool true] [] [] mixed (by simp) rfl (by kernel_rfl) (by kernel_rfl) (by kernel_rfl) (by simp) rfl H (by simp only [List.take_succ_cons, List.take_zero]; exact rfl) (by simp only [List.drop_succ_cons, List.drop_zero]; exact rfl)
            (fun x => by simp only [ov, Act.put, List.setIfInBounds_toArray, List.set_cons_succ, List.set_cons_zero, Nat.zero_add, Nat.reduceAdd]; exact rfl) ?_ ?_ ?_ ?_
          · refine ⟨?_, trivial⟩
            · intro w x hS; have H : Holds E sL2 (pt b6 (.cells #[.int .i64 u3.kind, .string u3.key, .int .i64 u3.value, .slice A3o1 u3.list.length c3o1, .bool u3.has, .bool u3.isNil] 108 (0, 0)) :: (kOp.sh sL2).Osl (.slice (some ⟨bokk1, 0, none⟩) u2.length cv3) u2 :: L) w := hS; exact ⟨_, _, Sub.refl _, H⟩
          · refine ⟨?_, ?_, ?_, ?_, ?_, ?_, ?_, ?_, ?_, ?_, ?_, ?_, ?_, ?_, ?_, ?_, ?_, ?_, ?_, ?_, trivial⟩
            · refine .inr ?_; intro s' R w' x Φ hs H hx hΦ; refine wantG rfl ?_; refine O_mv rfl rfl ?_; exact hΦ
            · refine .inr ?_; intro s' R w' x Φ hs H hx hΦ; refine wantG rfl ?_; refine O_mv rfl rfl ?_; exact hΦ
            · refine .inr ?_; intro s' R w' x Φ hs H hx hΦ; have e0 : x 0 = .int .i64 u4.1 := hx 0 (by decide) (by decide); have e1 : x 1 = .int .i64 u5.1 := hx 1 (by decide) (by decide); simp only [e0, e1]; refine wantG rfl ?_; refine O_bin rfl rfl rfl eqg_int r_neq ?_; exact hΦ
            · refine .inr ?_; intro s' R w' x Φ hs H hx hΦ; have e2 : x 2 = .bool (u4.1 != u5.1) := hx 2 (by decide) (by decide); simp only [e2]; refine wantG rfl ?_; refine O_mv rfl rfl ?_; exact hΦ
            · refine .inr ?_; intro s' R w' x Φ hs H hx hΦ; have e3 : x 3 = .bool (u4.1 != u5.1) := hx 3 (by decide) (by decide); simp only [e3]; refine wantU ((wanted_f rfl rfl rfl).trans (congrArg not hg1)) ?_; exact hΦ
            · refine .inr ?_; intro s' R w' x Φ hs H hx hΦ; have e3 : x 3 = .bool (u4.1 != u5.1) := hx 3 (by decide) (by decide); simp only [e3]; refine wantU ((wanted_f rfl rfl rfl).trans (congrArg not hg1)) ?_; exact hΦ
            · refine .inr ?_; intro s' R w' x Φ hs H hx hΦ; have e3 : x 3 = .bool (u4.1 != u5.1) := hx 3 (by decide) (by decide); simp only [e3]; refine wantU ((wanted_f rfl rfl rfl).trans (congrArg not hg1)) ?_; exact hΦ
            · refine .inr ?_; intro s' R w' x Φ hs H hx hΦ; have e3 : x 3 = .bool (u4.1 != u5.1) := hx 3 (by decide) (by decide); have e6 : x 6 = undef := hx 6 (by decide) (by decide); simp only [e3, e6]; refine wantG rfl ?_; refine O_pickT rfl rfl hg1 rfl ?_; exact hΦ
            · refine .inr ?_; intro s' R w' x Φ hs H hx hΦ; have e7 : x 7 = .bool true := hx 7 (by decide) (by decide); simp only [e7]; refine wantG rfl ?_; refine O_mv rfl rfl ?_; exact hΦ
            · refine .inr ?_; intro s' R w' x Φ hs H hx hΦ; have e8 : x 8 = .bool true := hx 8 (by decide) (by decide); simp only [e8]; refine wantU ((wanted_f rfl rfl rfl).trans (congrArg not rfl)) ?_; exact hΦ
            · refine .inr ?_; intro s' R w' x Φ hs H hx hΦ; have e8 : x 8 = .bool true := hx 8 (by decide) (by decide); simp only [e8]; refine wantU ((wanted_f rfl rfl rfl).trans (congrArg not rfl)) ?_; exact hΦ
            · refine .inr ?_; intro s' R w' x Φ hs H hx hΦ; have e8 : x 8 = .bool true := hx 8 (by decide) (by decide); simp only [e8]; refine wantU ((wanted_f rfl rfl rfl).trans (congrArg not rfl)) ?_; exact hΦ
            · refine .inr ?_; intro s' R w' x Φ hs H hx hΦ; have e8 : x 8 = .bool true := hx 8 (by decide) (by decide); simp only [e8]; refine wantU ((wanted_f rfl rfl rfl).trans (congrArg not rfl)) ?_; exact hΦ
            · refine .inr ?_; intro s' R w' x Φ hs H hx hΦ; have e8 : x 8 = .bool true := hx 8 (by decide) (by decide); simp only [e8]; refine wantU ((wanted_f rfl rfl rfl).trans (congrArg not rfl)) ?_; exact hΦ
            · refine .inr ?_; intro s' R w' x Φ hs H hx hΦ; have e8 : x 8 = .bool true := hx 8 (by decide) (by decide); simp only [e8]; refine wantU ((wanted_f rfl rfl rfl).trans (congrArg not rfl)) ?_; exact hΦ
            · refine .inr ?_; intro s' R w' x Φ hs H hx hΦ; have e8 : x 8 = .bool true := hx 8 (by decide) (by decide); simp only [e8]; refine wantU ((wanted_f rfl rfl rfl).trans (congrArg not rfl)) ?_; exact hΦ
            · refine .inr ?_; intro s' R w' x Φ hs H hx hΦ; have e8 : x 8 = .bool true := hx 8 (by decide) (by decide); simp only [e8]; refine wantU ((wanted_f rfl rfl rfl).trans (congrArg not rfl)) ?_; exact hΦ
            · refine .inr ?_; intro s' R w' x Φ hs H hx hΦ; have e8 : x 8 = .bool true := hx 8 (by decide) (by decide); simp only [e8]; refine wantU ((wanted_f rfl rfl rfl).trans (congrArg not rfl)) ?_; exact hΦ
            · refine .inr ?_; intro s' R w' x Φ hs H hx hΦ; have e8 : x 8 = .bool true := hx 8 (by decide) (by decide); simp only [e8]; refine wantU ((wanted_f rfl rfl rfl).trans (congrArg not rfl)) ?_; exact hΦ
            · refine .inr ?_; intro s' R w' x Φ hs H hx hΦ; have e8 : x 8 = .bool true := hx 8 (by decide) (by decide); have e18 : x 18 = undef := hx 18 (by decide) (by decide); simp only [e8, e18]; refine wantG rfl ?_; refine O_pickT rfl rfl rfl rfl ?_; exact hΦ
          · exact trivial
          · clear H
            intro w' x hS hx
            have H : Holds E sL2 (pt b6 (.cells #[.int .i64 u3.kind, .string u3.key, .int .i64 u3.value, .slice A3o1 u3.list.length c3o1, .bool u3.has, .bool u3.isNil] 108 (0, 0)) :: (kOp.sh sL2).Osl (.slice (some ⟨bokk1, 0, none⟩) u2.length cv3) u2 :: L) w' := hS; clear hS
            have e0 : x 0 = .int .i64 u4.1 := hx 0 (by decide) (by decide)
            have e1 : x 1 = .int .i64 u5.1 := hx 1 (by decide) (by decide)
            have e2 : x 2 = .bool (u4.1 != u5.1) := hx 2 (by decide) (by decide)
            have e3 : x 3 = .bool (u4.1 != u5.1) := hx 3 (by decide) (by decide)
            have e4 : x 4 = undef := hx 4 (by decide) (by decide)
            have e5 : x 5 = undef := hx 5 (by decide) (by decide)
            have e6 : x 6 = undef := hx 6 (by decide) (by decide)
            have e7 : x 7 = .bool true := hx 7 (by decide) (by decide)
            have e8 : x 8 = .bool true := hx 8 (by decide) (by decide)
            have e9 : x 9 = undef := hx 9 (by decide) (by decide)
            have e10 : x 10 = undef := hx 10 (by decide) (by decide)
            have e11 : x 11 = undef := hx 11 (by decide) (by decide)
            have e12 : x 12 = undef := hx 12 (by decide) (by decide)
            have e13 : x 13 = undef := hx 13 (by decide) (by decide)
            have e14 : x 14 = undef := hx 14 (by decide) (by decide)
            have e15 : x 15 = undef := hx 15 (by decide) (by decide)
            have e16 : x 16 = undef := hx 16 (by decide) (by decide)
            have e17 : x 17 = undef := hx 17 (by decide) (by decide)
            have e18 : x 18 = undef := hx 18 (by decide) (by decide)
            have e19 : x 19 = .bool true := hx 19 (by decide) (by decide)
            simp only [e0, e1, e2, e3, e4, e5, e6, e7, e8, e9, e10, e11, e12, e13, e14, e15, e16, e17, e18, e19]
            clear hx
            refine list_end ?_
            refine then_norm ?_
            refine wp_cond_true rfl ?_
            refine wp_seq ?_
            refine wp_region_lit ?_
            apply seq_op (V := .bool false) rfl
            · exact fun _ h => O_as rfl rfl h
            (try simp only [PT])
            refine list_end ?_
            refine then_norm ?_
            refine wp_ret ?_
            refine block_ret ?_
            refine then_ret ?_
            refine then_ret ?_
            refine block_ret ?_
            refine then_ret ?_
            have hq2 := Option.some.inj hq2
            subst hq2
            (try dsimp only at hm)
            have hm := Option.some.inj hm
            subst hm
            replace H := H.dropAt 1 rfl; simp only [List.eraseIdx_cons_succ, List.eraseIdx_cons_zero] at H
            replace H := H.dropAt 0 rfl; simp only [List.eraseIdx_cons_succ, List.eraseIdx_cons_zero] at H
            replace H := H.forget hS
            exact ret1 rfl (rv_tmp rfl) rfl ⟨rfl, H⟩
        · replace hq2 := ifF hg1 hq2
          rcases Bool.eq_false_or_eq_true (!(u4.2 == u5.2)) with hg2 | hg2
          · replace hq2 := ifT hg2 hq2
            refine wp_draw_P (k := 20) (sz := 62) [] [[]] [] [.int .i64 u4.1, .int .i64 u5.1, .bool (u4.1 != u5.1), .bool (u4.1 != u5.1), .bool u4.2, .bool u5.2, .bool (!(u4.2 == u5.2)), .bool (!(u4.2 == u5.2)), .bool (!(u4.2 == u5.2)), undef, undef, undef, undef, undef, undef, undef, undef, undef, undef, .bool true] [] [] mixed (by simp) rfl (by kernel_rfl) (by kernel_rfl) (by kernel_rfl) (by simp) rfl H (by simp only [List.take_succ_cons, List.take_zero]; exact rfl) (by simp only [List.drop_succ_cons, List.drop_zero]; exact rfl)
              (fun x => by simp only [ov, Act.put, List.setIfInBounds_toArray, List.set_cons_succ, List.set_cons_zero, Nat.zero_add, Nat.reduceAdd]; exact rfl) ?_ ?_ ?_ ?_
            · refine ⟨?_, trivial⟩
              · intro w x hS; have H : Holds E sL2 (pt b6 (.cells #[.int .i64 u3.kind, .string u3.key, .int .i64 u3.value, .slice A3o1 u3.list.length c3o1, .bool u3.has, .bool u3.isNil] 108 (0, 0)) :: (kOp.sh sL2).Osl (.slice (some ⟨bokk1, 0, none⟩) u2.length cv3) u2 :: L) w := hS; exact ⟨_, _, Sub.refl _, H⟩
            · refine ⟨?_, ?_, ?_, ?_, ?_, ?_, ?_, ?_, ?_, ?_, ?_, ?_, ?_, ?_, ?_, ?_, ?_, ?_, ?_, ?_, trivial⟩
              · refine .inr ?_; intro s' R w' x Φ hs H hx hΦ; refine wantG rfl ?_; refine O_mv rfl rfl ?_; exact hΦ
              · refine .inr ?_; intro s' R w' x Φ hs H hx hΦ; refine wantG rfl ?_; refine O_mv rfl rfl ?_; exact hΦ
              · refine .inr ?_; intro s' R w' x Φ hs H hx hΦ; have e0 : x 0 = .int .i64 u4.1 := hx 0 (by decide) (by decide); have e1 : x 1 = .int .i64 u5.1 := hx 1 (by decide) (by decide); simp only [e0, e1]; refine wantG rfl ?_; refine O_bin rfl rfl rfl eqg_int r_neq ?_; exact hΦ
              · refine .inr ?_; intro s' R w' x Φ hs H hx hΦ; have e2 : x 2 = .bool (u4.1 != u5.1) := hx 2 (by decide) (by decide); simp only [e2]; refine wantG rfl ?_; refine O_mv rfl rfl ?_; exact hΦ
              · refine .inr ?_; intro s' R w' x Φ hs H hx hΦ; have e3 : x 3 = .bool (u4.1 != u5.1) := hx 3 (by decide) (by decide); simp only [e3]; refine wantK ((wanted_f rfl rfl rfl).trans (congrArg not hg1)) ?_; refine O_mv rfl rfl ?_; exact hΦ
              · refine .inr ?_; intro s' R w' x Φ hs H hx hΦ; have e3 : x 3 = .bool (u4.1 != u5.1) := hx 3 (by decide) (by decide); simp only [e3]; refine wantK ((wanted_f rfl rfl rfl).trans (congrArg not hg1)) ?_; refine O_mv rfl rfl ?_; exact hΦ
              · refine .inr ?_; intro s' R w' x Φ hs H hx hΦ; have e3 : x 3 = .bool (u4.1 != u5.1) := hx 3 (by decide) (by decide); have e4 : x 4 = .bool u4.2 := hx 4 (by decide) (by decide); have e5 : x 5 = .bool u5.2 := hx 5 (by decide) (by decide); simp only [e3, e4, e5]; refine wantK ((wanted_f rfl rfl rfl).trans (congrArg not hg1)) ?_; refine O_bin rfl rfl rfl eqg_bool (r_bne Tryd.underlying4) ?_; exact hΦ
              · refine .inr ?_; intro s' R w' x Φ hs H hx hΦ; have e3 : x 3 = .bool (u4.1 != u5.1) := hx 3 (by decide) (by decide); have e6 : x 6 = .bool (!(u4.2 == u5.2)) := hx 6 (by decide) (by decide); simp only [e3, e6]; refine wantG rfl ?_; refine O_pickF rfl rfl hg1 rfl ?_; exact hΦ
              · refine .inr ?_; intro s' R w' x Φ hs H hx hΦ; have e7 : x 7 = .bool (!(u4.2 == u5.2)) := hx 7 (by decide) (by decide); simp only [e7]; refine wantG rfl ?_; refine O_mv rfl rfl ?_; exact hΦ
              · refine .inr ?_; intro s' R w' x Φ hs H hx hΦ; have e8 : x 8 = .bool (!(u4.2 == u5.2)) := hx 8 (by decide) (by decide); simp only [e8]; refine wantU ((wanted_f rfl rfl rfl).trans (congrArg not hg2)) ?_; exact hΦ
              · refine .inr ?_; intro s' R w' x Φ hs H hx hΦ; have e8 : x 8 = .bool (!(u4.2 == u5.2)) := hx 8 (by decide) (by decide); simp only [e8]; refine wantU ((wanted_f rfl rfl rfl).trans (congrArg not hg2)) ?_; exact hΦ
              · refine .inr ?_; intro s' R w' x Φ hs H hx hΦ; have e8 : x 8 = .bool (!(u4.2 == u5.2)) := hx 8 (by decide) (by decide); simp only [e8]; refine wantU ((wanted_f rfl rfl rfl).trans (congrArg not hg2)) ?_; exact hΦ
              · refine .inr ?_; intro s' R w' x Φ hs H hx hΦ; have e8 : x 8 = .bool (!(u4.2 == u5.2)) := hx 8 (by decide) (by decide); simp only [e8]; refine wantU ((wanted_f rfl rfl rfl).trans (congrArg not hg2)) ?_; exact hΦ
              · refine .inr ?_; intro s' R w' x Φ hs H hx hΦ; have e8 : x 8 = .bool (!(u4.2 == u5.2)) := hx 8 (by decide) (by decide); simp only [e8]; refine wantU ((wanted_f rfl rfl rfl).trans (congrArg not hg2)) ?_; exact hΦ
              · refine .inr ?_; intro s' R w' x Φ hs H hx hΦ; have e8 : x 8 = .bool (!(u4.2 == u5.2)) := hx 8 (by decide) (by decide); simp only [e8]; refine wantU ((wanted_f rfl rfl rfl).trans (congrArg not hg2)) ?_; exact hΦ
              · refine .inr ?_; intro s' R w' x Φ hs H hx hΦ; have e8 : x 8 = .bool (!(u4.2 == u5.2)) := hx 8 (by decide) (by decide); simp only [e8]; refine wantU ((wanted_f rfl rfl rfl).trans (congrArg not hg2)) ?_; exact hΦ
              · refine .inr ?_; intro s' R w' x Φ hs H hx hΦ; have e8 : x 8 = .bool (!(u4.2 == u5.2)) := hx 8 (by decide) (by decide); simp only [e8]; refine wantU ((wanted_f rfl rfl rfl).trans (congrArg not hg2)) ?_; exact hΦ
              · refine .inr ?_; intro s' R w' x Φ hs H hx hΦ; have e8 : x 8 = .bool (!(u4.2 == u5.2)) := hx 8 (by decide) (by decide); simp only [e8]; refine wantU ((wanted_f rfl rfl rfl).trans (congrArg not hg2)) ?_; exact hΦ
              · refine .inr ?_; intro s' R w' x Φ hs H hx hΦ; have e8 : x 8 = .bool (!(u4.2 == u5.2)) := hx 8 (by decide) (by decide); simp only [e8]; refine wantU ((wanted_f rfl rfl rfl).trans (congrArg not hg2)) ?_; exact hΦ
              · refine .inr ?_; intro s' R w' x Φ hs H hx hΦ; have e8 : x 8 = .bool (!(u4.2 == u5.2)) := hx 8 (by decide) (by decide); have e18 : x 18 = undef := hx 18 (by decide) (by decide); simp only [e8, e18]; refine wantG rfl ?_; refine O_pickT rfl rfl hg2 rfl ?_; exact hΦ
            · exact trivial
            · clear H
              intro w' x hS hx
              have H : Holds E sL2 (pt b6 (.cells #[.int .i64 u3.kind, .string u3.key, .int .i64 u3.value, .slice A3o1 u3.list.length c3o1, .bool u3.has, .bool u3.isNil] 108 (0, 0)) :: (kOp.sh sL2).Osl (.slice (some ⟨bokk1, 0, none⟩) u2.length cv3) u2 :: L) w' := hS; clear hS
              have e0 : x 0 = .int .i64 u4.1 := hx 0 (by decide) (by decide)
              have e1 : x 1 = .int .i64 u5.1 := hx 1 (by decide) (by decide)
              have e2 : x 2 = .bool (u4.1 != u5.1) := hx 2 (by decide) (by decide)
              have e3 : x 3 = .bool (u4.1 != u5.1) := hx 3 (by decide) (by decide)
              have e4 : x 4 = .bool u4.2 := hx 4 (by decide) (by decide)
              have e5 : x 5 = .bool u5.2 := hx 5 (by decide) (by decide)
              have e6 : x 6 = .bool (!(u4.2 == u5.2)) := hx 6 (by decide) (by decide)
              have e7 : x 7 = .bool (!(u4.2 == u5.2)) := hx 7 (by decide) (by decide)
              have e8 : x 8 = .bool (!(u4.2 == u5.2)) := hx 8 (by decide) (by decide)
              have e9 : x 9 = undef := hx 9 (by decide) (by decide)
              have e10 : x 10 = undef := hx 10 (by decide) (by decide)
              have e11 : x 11 = undef := hx 11 (by decide) (by decide)
              have e12 : x 12 = undef := hx 12 (by decide) (by decide)
              have e13 : x 13 = undef := hx 13 (by decide) (by decide)
              have e14 : x 14 = undef := hx 14 (by decide) (by decide)
              have e15 : x 15 = undef := hx 15 (by decide) (by decide)
              have e16 : x 16 = undef := hx 16 (by decide) (by decide)
              have e17 : x 17 = undef := hx 17 (by decide) (by decide)
              have e18 : x 18 = undef := hx 18 (by decide) (by decide)
              have e19 : x 19 = .bool true := hx 19 (by decide) (by decide)
              simp only [e0, e1, e2, e3, e4, e5, e6, e7, e8, e9, e10, e11, e12, e13, e14, e15, e16, e17, e18, e19]
              clear hx
              refine list_end ?_
              refine then_norm ?_
              refine wp_cond_true rfl ?_
              refine wp_seq ?_
              refine wp_region_lit ?_
              apply seq_op (V := .bool false) rfl
              · exact fun _ h => O_as rfl rfl h
              (try simp only [PT])
              refine list_end ?_
              refine then_norm ?_
              refine wp_ret ?_
              refine block_ret ?_
              refine then_ret ?_
              refine then_ret ?_
              refine block_ret ?_
              refine then_ret ?_
              have hq2 := Option.some.inj hq2
              subst hq2
              (try dsimp only at hm)
              have hm := Option.some.inj hm
              subst hm
              replace H := H.dropAt 1 rfl; simp only [List.eraseIdx_cons_succ, List.eraseIdx_cons_zero] at H
              replace H := H.dropAt 0 rfl; simp only [List.eraseIdx_cons_succ, List.eraseIdx_cons_zero] at H
              replace H := H.forget hS
              exact ret1 rfl (rv_tmp rfl) rfl ⟨rfl, H⟩
          · replace hq2 := ifF hg2 hq2
            obtain ⟨u37201, gx37201, hq2⟩ := bs hq2
            obtain ⟨u37601, gx37601, hq2⟩ := bs hq2
            obtain ⟨u37701, gx37701, hq2⟩ := bs hq2
            refine wp_draw_P (k := 20) (sz := 62) [12, 16, 17, 18, 19] [[false, false, false, false, false], [true, false, false, false, false], [true, true, false, false, false], [true, true, true, false, false], [true, true, true, true, false], [true, true, true, true, true]] [(0, 0, 1), (1, 1, 2), (2, 2, 3), (3, 3, 4), (4, 4, 5)] [.int .i64 u4.1, .int .i64 u5.1, .bool (u4.1 != u5.1), .bool (u4.1 != u5.1), .bool u4.2, .bool u5.2, .bool (!(u4.2 == u5.2)), .bool (!(u4.2 == u5.2)), .bool (!(u4.2 == u5.2)), .pointer (some ⟨b_p0, o_p0, none⟩), .pointer (some ⟨b6, 1, none⟩), .string u3.key, undef, .pointer (some ⟨b_p1, o_p1, none⟩), .pointer (some ⟨b6, 1, none⟩), .string u3.key, undef, undef, undef, undef] [pt b6 (.cells #[.int .i64 u3.kind, .string u3.key, .int .i64 u3.value, .slice A3o1 u3.list.length c3o1, .bool u3.has, .bool u3.isNil] 108 (0, 0))] [fun w x => ∃ (sc : SH) (Ar372010 : Option Addr) (cr372010 : Nat), Sub sL2 sc ∧ kI.Sl sc (.slice Ar372010 u37201.length cr372010) u37201 ∧ x 12 = .slice Ar372010 u37201.length cr372010 ∧ Holds E sc (pt b6 (.cells #[.int .i64 u3.kind, .string u3.key, .int .i64 u3.value, .slice A3o1 u3.list.length c3o1, .bool u3.has, .bool u3.isNil] 108 (0, 0)) :: (kOp.sh sc).Osl (.slice (some ⟨bokk1, 0, none⟩) u2.length cv3) u2 :: L) w, fun w x => ∃ (sc : SH) (Ar372010 : Option Addr) (cr372010 : Nat) (Ar376010 : Option Addr) (cr376010 : Nat), Sub sL2 sc ∧ kI.Sl sc (.slice Ar372010 u37201.length cr372010) u37201 ∧ kI.Sl sc (.slice Ar376010 u37601.length cr376010) u37601 ∧ x 12 = .slice Ar372010 u37201.length cr372010 ∧ x 16 = .slice Ar376010 u37601.length cr376010 ∧ Holds E sc (pt b6 (.cells #[.int .i64 u3.kind, .string u3.key, .int .i64 u3.value, .slice A3o1 u3.list.length c3o1, .bool u3.has, .bool u3.isNil] 108 (0, 0)) :: (kOp.sh sc).Osl (.slice (some ⟨bokk1, 0, none⟩) u2.length cv3) u2 :: L) w, fun w x => ∃ (sc : SH) (Ar372010 : Option Addr) (cr372010 : Nat) (Ar376010 : Option Addr) (cr376010 : Nat), Sub sL2 sc ∧ kI.Sl sc (.slice Ar372010 u37201.length cr372010) u37201 ∧ kI.Sl sc (.slice Ar376010 u37601.length cr376010) u37601 ∧ x 12 = .slice Ar372010 u37201.length cr372010 ∧ x 16 = .slice Ar376010 u37601.length cr376010 ∧ x 17 = .bool u37701 ∧ Holds E sc (pt b6 (.cells #[.int .i64 u3.kind, .string u3.key, .int .i64 u3.value, .slice A3o1 u3.list.length c3o1, .bool u3.has, .bool u3.isNil] 108 (0, 0)) :: (kOp.sh sc).Osl (.slice (some ⟨bokk1, 0, none⟩) u2.length cv3) u2 :: L) w, fun w x => ∃ (sc : SH) (Ar372010 : Option Addr) (cr372010 : Nat) (Ar376010 : Option Addr) (cr376010 : Nat), Sub sL2 sc ∧ kI.Sl sc (.slice Ar372010 u37201.length cr372010) u37201 ∧ kI.Sl sc (.slice Ar376010 u37601.length cr376010) u37601 ∧ x 12 = .slice Ar372010 u37201.length cr372010 ∧ x 16 = .slice Ar376010 u37601.length cr376010 ∧ x 17 = .bool u37701 ∧ x 18 = .bool (!u37701) ∧ Holds E sc (pt b6 (.cells #[.int .i64 u3.kind, .string u3.key, .int .i64 u3.value, .slice A3o1 u3.list.length c3o1, .bool u3.has, .bool u3.isNil] 108 (0, 0)) :: (kOp.sh sc).Osl (.slice (some ⟨bokk1, 0, none⟩) u2.length cv3) u2 :: L) w, fun w x => ∃ (sc : SH) (Ar372010 : Option Addr) (cr372010 : Nat) (Ar376010 : Option Addr) (cr376010 : Nat), Sub sL2 sc ∧ kI.Sl sc (.slice Ar372010 u37201.length cr372010) u37201 ∧ kI.Sl sc (.slice Ar376010 u37601.length cr376010) u37601 ∧ x 12 = .slice Ar372010 u37201.length cr372010 ∧ x 16 = .slice Ar376010 u37601.length cr376010 ∧ x 17 = .bool u37701 ∧ x 18 = .bool (!u37701) ∧ x 19 = .bool (!u37701) ∧ Holds E sc (pt b6 (.cells #[.int .i64 u3.kind, .string u3.key, .int .i64 u3.value, .slice A3o1 u3.list.length c3o1, .bool u3.has, .bool u3.isNil] 108 (0, 0)) :: (kOp.sh sc).Osl (.slice (some ⟨bokk1, 0, none⟩) u2.length cv3) u2 :: L) w] mixed (by simp) rfl (by kernel_rfl) (by kernel_rfl) (by kernel_rfl) (by simp) rfl H (by simp only [List.take_succ_cons, List.take_zero]; exact rfl) (by simp only [List.drop_succ_cons, List.drop_zero]; exact rfl)
              (fun x => by simp only [ov, Act.put, List.setIfInBounds_toArray, List.set_cons_succ, List.set_cons_zero, Nat.zero_add, Nat.reduceAdd]; exact rfl) ?_ ?_ ?_ ?_
            · refine ⟨?_, ?_, ?_, ?_, ?_, ?_, trivial⟩
              · intro w x hS; have H : Holds E sL2 (pt b6 (.cells #[.int .i64 u3.kind, .string u3.key, .int .i64 u3.value, .slice A3o1 u3.list.length c3o1, .bool u3.has, .bool u3.isNil] 108 (0, 0)) :: (kOp.sh sL2).Osl (.slice (some ⟨bokk1, 0, none⟩) u2.length cv3) u2 :: L) w := hS; exact ⟨_, _, Sub.refl _, H⟩
              · intro w x hS; obtain ⟨sc, Ar372010, cr372010, hsc, hf37201, e12, H⟩ := hS; exact ⟨_, _, hsc, H⟩
              · intro w x hS; obtain ⟨sc, Ar372010, cr372010, Ar376010, cr376010, hsc, hf37201, hf37601, e12, e16, H⟩ := hS; exact ⟨_, _, hsc, H⟩
              · intro w x hS; obtain ⟨sc, Ar372010, cr372010, Ar376010, cr376010, hsc, hf37201, hf37601, e12, e16, e17, H⟩ := hS; exact ⟨_, _, hsc, H⟩
              · intro w x hS; obtain ⟨sc, Ar372010, cr372010, Ar376010, cr376010, hsc, hf37201, hf37601, e12, e16, e17, e18, H⟩ := hS; exact ⟨_, _, hsc, H⟩
              · intro w x hS; obtain ⟨sc, Ar372010, cr372010, Ar376010, cr376010, hsc, hf37201, hf37601, e12, e16, e17, e18, e19, H⟩ := hS; exact ⟨_, _, hsc, H⟩
            · refine ⟨?_, ?_, ?_, ?_, ?_, ?_, ?_, ?_, ?_, ?_, ?_, ?_, ?_, ?_, ?_, ?_, ?_, ?_, ?_, ?_, trivial⟩
              · refine .inr ?_; intro s' R w' x Φ hs H hx hΦ; refine wantG rfl ?_; refine O_mv rfl rfl ?_; exact hΦ
              · refine .inr ?_; intro s' R w' x Φ hs H hx hΦ; refine wantG rfl ?_; refine O_mv rfl rfl ?_; exact hΦ
              · refine .inr ?_; intro s' R w' x Φ hs H hx hΦ; have e0 : x 0 = .int .i64 u4.1 := hx 0 (by decide) (by decide); have e1 : x 1 = .int .i64 u5.1 := hx 1 (by decide) (by decide); simp only [e0, e1]; refine wantG rfl ?_; refine O_bin rfl rfl rfl eqg_int r_neq ?_; exact hΦ
              · refine .inr ?_; intro s' R w' x Φ hs H hx hΦ; have e2 : x 2 = .bool (u4.1 != u5.1) := hx 2 (by decide) (by decide); simp only [e2]; refine wantG rfl ?_; refine O_mv rfl rfl ?_; exact hΦ
              · refine .inr ?_; intro s' R w' x Φ hs H hx hΦ; have e3 : x 3 = .bool (u4.1 != u5.1) := hx 3 (by decide) (by decide); simp only [e3]; refine wantK ((wanted_f rfl rfl rfl).trans (congrArg not hg1)) ?_; refine O_mv rfl rfl ?_; exact hΦ
              · refine .inr ?_; intro s' R w' x Φ hs H hx hΦ; have e3 : x 3 = .bool (u4.1 != u5.1) := hx 3 (by decide) (by decide); simp only [e3]; refine wantK ((wanted_f rfl rfl rfl).trans (congrArg not hg1)) ?_; refine O_mv rfl rfl ?_; exact hΦ
              · refine .inr ?_; intro s' R w' x Φ hs H hx hΦ; have e3 : x 3 = .bool (u4.1 != u5.1) := hx 3 (by decide) (by decide); have e4 : x 4 = .bool u4.2 := hx 4 (by decide) (by decide); have e5 : x 5 = .bool u5.2 := hx 5 (by decide) (by decide); simp only [e3, e4, e5]; refine wantK ((wanted_f rfl rfl rfl).trans (congrArg not hg1)) ?_; refine O_bin rfl rfl rfl eqg_bool (r_bne Tryd.underlying4) ?_; exact hΦ
              · refine .inr ?_; intro s' R w' x Φ hs H hx hΦ; have e3 : x 3 = .bool (u4.1 != u5.1) := hx 3 (by decide) (by decide); have e6 : x 6 = .bool (!(u4.2 == u5.2)) := hx 6 (by decide) (by decide); simp only [e3, e6]; refine wantG rfl ?_; refine O_pickF rfl rfl hg1 rfl ?_; exact hΦ
              · refine .inr ?_; intro s' R w' x Φ hs H hx hΦ; have e7 : x 7 = .bool (!(u4.2 == u5.2)) := hx 7 (by decide) (by decide); simp only [e7]; refine wantG rfl ?_; refine O_mv rfl rfl ?_; exact hΦ
              · refine .inr ?_; intro s' R w' x Φ hs H hx hΦ; have e8 : x 8 = .bool (!(u4.2 == u5.2)) := hx 8 (by decide) (by decide); simp only [e8]; refine wantK ((wanted_f rfl rfl rfl).trans (congrArg not hg2)) ?_; refine O_mv rfl rfl ?_; exact hΦ
              · refine .inr ?_; intro s' R w' x Φ hs H hx hΦ; have e8 : x 8 = .bool (!(u4.2 == u5.2)) := hx 8 (by decide) (by decide); simp only [e8]; refine wantK ((wanted_f rfl rfl rfl).trans (congrArg not hg2)) ?_; refine O_fld rfl Tryd.underlying108 rfl (Tryd.sizeOf9 _) rfl ?_; exact hΦ
              · refine .inr ?_; intro s' R w' x Φ hs H hx hΦ; have e8 : x 8 = .bool (!(u4.2 == u5.2)) := hx 8 (by decide) (by decide); have e10 : x 10 = .pointer (some ⟨b6, 1, none⟩) := hx 10 (by decide) (by decide); simp only [e8, e10]; refine wantK ((wanted_f rfl rfl rfl).trans (congrArg not hg2)) ?_; refine L_1 0 _ _ rfl (Tryd.isAgg9 _) rfl H rfl rfl ?_; exact hΦ
              · exact .inl (by decide)
              · refine .inr ?_; intro s' R w' x Φ hs H hx hΦ; have e8 : x 8 = .bool (!(u4.2 == u5.2)) := hx 8 (by decide) (by decide); simp only [e8]; refine wantK ((wanted_f rfl rfl rfl).trans (congrArg not hg2)) ?_; refine O_mv rfl rfl ?_; exact hΦ
              · refine .inr ?_; intro s' R w' x Φ hs H hx hΦ; have e8 : x 8 = .bool (!(u4.2 == u5.2)) := hx 8 (by decide) (by decide); simp only [e8]; refine wantK ((wanted_f rfl rfl rfl).trans (congrArg not hg2)) ?_; refine O_fld rfl Tryd.underlying108 rfl (Tryd.sizeOf9 _) rfl ?_; exact hΦ
              · refine .inr ?_; intro s' R w' x Φ hs H hx hΦ; have e8 : x 8 = .bool (!(u4.2 == u5.2)) := hx 8 (by decide) (by decide); have e14 : x 14 = .pointer (some ⟨b6, 1, none⟩) := hx 14 (by decide) (by decide); simp only [e8, e14]; refine wantK ((wanted_f rfl rfl rfl).trans (congrArg not hg2)) ?_; refine L_1 0 _ _ rfl (Tryd.isAgg9 _) rfl H rfl rfl ?_; exact hΦ
              · exact .inl (by decide)
              · exact .inl (by decide)
              · exact .inl (by decide)
              · exact .inl (by decide)
            · refine ⟨?_, ?_, ?_, ?_, ?_, trivial⟩
              · intro c o S0 S1 hc ho h0 h1; obtain rfl := Option.some.inj hc; obtain rfl := Option.some.inj ho; obtain rfl := Option.some.inj h0; obtain rfl := Option.some.inj h1; intro w' x Φ hS hx hΦ
                have H : Holds E sL2 (pt b6 (.cells #[.int .i64 u3.kind, .string u3.key, .int .i64 u3.value, .slice A3o1 u3.list.length c3o1, .bool u3.has, .bool u3.isNil] 108 (0, 0)) :: (kOp.sh sL2).Osl (.slice (some ⟨bokk1, 0, none⟩) u2.length cv3) u2 :: L) w' := hS; clear hS
                have hsc := Sub.refl sL2
                have e8 : x 8 = .bool (!(u4.2 == u5.2)) := hx 8 (by decide) (by decide)
                have e9 : x 9 = .pointer (some ⟨b_p0, o_p0, none⟩) := hx 9 (by decide) (by decide)
                have e11 : x 11 = .string u3.key := hx 11 (by decide) (by decide)
                simp only [e8, e9, e11]
                refine wantK ((wanted_f rfl rfl rfl).trans (congrArg not hg2)) ?_
                refine O_call2 rfl Tryd.func92 rfl rfl rfl rfl ?_; refine (assayerref16_State_List_w (a0 := a0) (hC_p0 := hC_p0) (h_p0_l := h_p0_l) (a1 := u3.key) (hm := gx37201) (H := H)).mono ?_
                clear H
                rintro e w1 ⟨Ar372010, cr372010, nr372010, rfl, H⟩; refine ⟨_, rfl, ?_⟩
                obtain rfl := osl_len 0 H rfl
                skip
                obtain ⟨s37201, hs', H, hf37201⟩ := Kin.Osl.fr H; replace hf37201 := hf37201.unsh hs'
                replace h_p0_l := h_p0_l.mono hs'
                replace hC_p0 := hC_p0.mono hs'
                replace h_p1_l := h_p1_l.mono hs'
                replace hC_p1 := hC_p1.mono hs'
                replace h3o1 := h3o1.mono hs'
                replace H := Holds.mapAt (A := (kOp.sh sL2).Osl (.slice (some ⟨bokk1, 0, none⟩) u2.length cv3) u2) (B := (kOp.sh s37201).Osl (.slice (some ⟨bokk1, 0, none⟩) u2.length cv3) u2) 1 rfl (fun h k => Kin.Osl.sh_mono (d := kOp) hs' h k) H; simp only [List.set_cons_succ, List.set_cons_zero] at H
                replace hsc := hsc.trans hs'
                exact hΦ _ _ ⟨s37201, Ar372010, cr372010, hsc, hf37201, updV_same, H⟩
              · intro c o S0 S1 hc ho h0 h1; obtain rfl := Option.some.inj hc; obtain rfl := Option.some.inj ho; obtain rfl := Option.some.inj h0; obtain rfl := Option.some.inj h1; intro w' x Φ hS hx hΦ
                obtain ⟨sc, Ar372010, cr372010, hsc, hf37201, e12, H⟩ := hS
                replace h_p0_l := h_p0_l.mono hsc
                replace hC_p0 := hC_p0.mono hsc
                replace h_p1_l := h_p1_l.mono hsc
                replace hC_p1 := hC_p1.mono hsc
                replace h3o1 := h3o1.mono hsc
                have e8 : x 8 = .bool (!(u4.2 == u5.2)) := hx 8 (by decide) (by decide)
                have e13 : x 13 = .pointer (some ⟨b_p1, o_p1, none⟩) := hx 13 (by decide) (by decide)
                have e15 : x 15 = .string u3.key := hx 15 (by decide) (by decide)
                simp only [e8, e13, e15]
                refine wantK ((wanted_f rfl rfl rfl).trans (congrArg not hg2)) ?_
                refine O_call2 rfl Tryd.func92 rfl rfl rfl rfl ?_; refine (assayerref16_State_List_w (a0 := a1) (hC_p0 := hC_p1) (h_p0_l := h_p1_l) (a1 := u3.key) (hm := gx37601) (H := H)).mono ?_
                clear H
                rintro e w1 ⟨Ar376010, cr376010, nr376010, rfl, H⟩; refine ⟨_, rfl, ?_⟩
                obtain rfl := osl_len 0 H rfl
                skip
                obtain ⟨s37601, hs', H, hf37601⟩ := Kin.Osl.fr H; replace hf37601 := hf37601.unsh hs'
                replace h_p0_l := h_p0_l.mono hs'
                replace hC_p0 := hC_p0.mono hs'
                replace h_p1_l := h_p1_l.mono hs'
                replace hC_p1 := hC_p1.mono hs'
                replace h3o1 := h3o1.mono hs'
                replace hf37201 := hf37201.mono hs'
                replace H := Holds.mapAt (A := (kOp.sh sc).Osl (.slice (some ⟨bokk1, 0, none⟩) u2.length cv3) u2) (B := (kOp.sh s37601).Osl (.slice (some ⟨bokk1, 0, none⟩) u2.length cv3) u2) 1 rfl (fun h k => Kin.Osl.sh_mono (d := kOp) hs' h k) H; simp only [List.set_cons_succ, List.set_cons_zero] at H
                replace hsc := hsc.trans hs'
                exact hΦ _ _ ⟨s37601, Ar372010, cr372010, Ar376010, cr376010, hsc, hf37201, hf37601, (updV_ne (by decide)).trans e12, updV_same, H⟩
              · intro c o S0 S1 hc ho h0 h1; obtain rfl := Option.some.inj hc; obtain rfl := Option.some.inj ho; obtain rfl := Option.some.inj h0; obtain rfl := Option.some.inj h1; intro w' x Φ hS hx hΦ
                obtain ⟨sc, Ar372010, cr372010, Ar376010, cr376010, hsc, hf37201, hf37601, e12, e16, H⟩ := hS
                replace h_p0_l := h_p0_l.mono hsc
                replace hC_p0 := hC_p0.mono hsc
                replace h_p1_l := h_p1_l.mono hsc
                replace hC_p1 := hC_p1.mono hsc
                replace h3o1 := h3o1.mono hsc
                have e8 : x 8 = .bool (!(u4.2 == u5.2)) := hx 8 (by decide) (by decide)
                simp only [e8, e12, e16]
                refine wantK ((wanted_f rfl rfl rfl).trans (congrArg not hg2)) ?_
                refine O_call2 rfl Tryd.func91 rfl rfl rfl rfl ?_; refine (assayerref02_SameList_w (a0 := u37201) (h_p0 := hf37201) (a1 := u37601) (h_p1 := hf37601) (hm := gx37701) (H := H)).mono ?_
                clear H
                rintro e w1 ⟨rfl, H⟩; refine ⟨_, rfl, ?_⟩
                exact hΦ _ _ ⟨sc, Ar372010, cr372010, Ar376010, cr376010, hsc, hf37201, hf37601, (updV_ne (by decide)).trans e12, (updV_ne (by decide)).trans e16, updV_same, H⟩
              · intro c o S0 S1 hc ho h0 h1; obtain rfl := Option.some.inj hc; obtain rfl := Option.some.inj ho; obtain rfl := Option.some.inj h0; obtain rfl := Option.some.inj h1; intro w' x Φ hS hx hΦ
                obtain ⟨sc, Ar372010, cr372010, Ar376010, cr376010, hsc, hf37201, hf37601, e12, e16, e17, H⟩ := hS
                replace h_p0_l := h_p0_l.mono hsc
                replace hC_p0 := hC_p0.mono hsc
                replace h_p1_l := h_p1_l.mono hsc
                replace hC_p1 := hC_p1.mono hsc
                replace h3o1 := h3o1.mono hsc
                have e8 : x 8 = .bool (!(u4.2 == u5.2)) := hx 8 (by decide) (by decide)
                simp only [e8, e17]
                refine wantK ((wanted_f rfl rfl rfl).trans (congrArg not hg2)) ?_
                refine O_not rfl rfl ?_
                exact hΦ _ _ ⟨sc, Ar372010, cr372010, Ar376010, cr376010, hsc, hf37201, hf37601, (updV_ne (by decide)).trans e12, (updV_ne (by decide)).trans e16, (updV_ne (by decide)).trans e17, updV_same, H⟩
              · intro c o S0 S1 hc ho h0 h1; obtain rfl := Option.some.inj hc; obtain rfl := Option.some.inj ho; obtain rfl := Option.some.inj h0; obtain rfl := Option.some.inj h1; intro w' x Φ hS hx hΦ
                obtain ⟨sc, Ar372010, cr372010, Ar376010, cr376010, hsc, hf37201, hf37601, e12, e16, e17, e18, H⟩ := hS
                replace h_p0_l := h_p0_l.mono hsc
                replace hC_p0 := hC_p0.mono hsc
                replace h_p1_l := h_p1_l.mono hsc
                replace hC_p1 := hC_p1.mono hsc
                replace h3o1 := h3o1.mono hsc
                have e8 : x 8 = .bool (!(u4.2 == u5.2)) := hx 8 (by decide) (by decide)
                simp only [e8, e18]
                refine wantG rfl ?_
                refine O_pickF rfl rfl hg2 rfl ?_
                exact hΦ _ _ ⟨sc, Ar372010, cr372010, Ar376010, cr376010, hsc, hf37201, hf37601, (updV_ne (by decide)).trans e12, (updV_ne (by decide)).trans e16, (updV_ne (by decide)).trans e17, (updV_ne (by decide)).trans e18, updV_same, H⟩
            · clear H
              intro w' x hS hx
              obtain ⟨sc, Ar372010, cr372010, Ar376010, cr376010, hsc, hf37201, hf37601, e12, e16, e17, e18, e19, H⟩ := hS
              replace h_p0_l := h_p0_l.mono hsc
              replace hC_p0 := hC_p0.mono hsc
              replace h_p1_l := h_p1_l.mono hsc
              replace hC_p1 := hC_p1.mono hsc
              replace h3o1 := h3o1.mono hsc
              replace hS := hS.trans hsc
              replace hs2 := hs2.trans hsc
              have e0 : x 0 = .int .i64 u4.1 := hx 0 (by decide) (by decide)
              have e1 : x 1 = .int .i64 u5.1 := hx 1 (by decide) (by decide)
              have e2 : x 2 = .bool (u4.1 != u5.1) := hx 2 (by decide) (by decide)
              have e3 : x 3 = .bool (u4.1 != u5.1) := hx 3 (by decide) (by decide)
              have e4 : x 4 = .bool u4.2 := hx 4 (by decide) (by decide)
              have e5 : x 5 = .bool u5.2 := hx 5 (by decide) (by decide)
              have e6 : x 6 = .bool (!(u4.2 == u5.2)) := hx 6 (by decide) (by decide)
              have e7 : x 7 = .bool (!(u4.2 == u5.2)) := hx 7 (by decide) (by decide)
              have e8 : x 8 = .bool (!(u4.2 == u5.2)) := hx 8 (by decide) (by decide)
              have e9 : x 9 = .pointer (some ⟨b_p0, o_p0, none⟩) := hx 9 (by decide) (by decide)
              have e10 : x 10 = .pointer (some ⟨b6, 1, none⟩) := hx 10 (by decide) (by decide)
              have e11 : x 11 = .string u3.key := hx 11 (by decide) (by decide)
              have e13 : x 13 = .pointer (some ⟨b_p1, o_p1, none⟩) := hx 13 (by decide) (by decide)
              have e14 : x 14 = .pointer (some ⟨b6, 1, none⟩) := hx 14 (by decide) (by decide)
              have e15 : x 15 = .string u3.key := hx 15 (by decide) (by decide)
              simp only [e0, e1, e2, e3, e4, e5, e6, e7, e8, e9, e10, e11, e12, e13, e14, e15, e16, e17, e18, e19]
              clear hx
              refine list_end ?_
              refine then_norm ?_
              refine wp_cond_split rfl (fun hc => ?_) (fun hc => ?_)
              · have hc2 := hc
                clear hc
                replace hq2 := ifT hc2 hq2
                refine wp_seq ?_
                refine wp_region_lit ?_
                apply seq_op (V := .bool false) rfl
                · exact fun _ h => O_as rfl rfl h
                (try simp only [PT])
                refine list_end ?_
                refine then_norm ?_
                refine wp_ret ?_
                refine block_ret ?_
                refine then_ret ?_
                refine then_ret ?_
                refine block_ret ?_
                refine then_ret ?_
                have hq2 := Option.some.inj hq2
                subst hq2
                (try dsimp only at hm)
                have hm := Option.some.inj hm
                subst hm
                replace H := H.dropAt 1 rfl; simp only [List.eraseIdx_cons_succ, List.eraseIdx_cons_zero] at H
                replace H := H.dropAt 0 rfl; simp only [List.eraseIdx_cons_succ, List.eraseIdx_cons_zero] at H
                replace H := H.forget hS
                exact ret1 rfl (rv_tmp rfl) rfl ⟨rfl, H⟩
              · have hc2 := hc
                clear hc
                replace hq2 := ifF hc2 hq2
                refine wp_skip ?_
                refine block_norm ?_
                refine then_norm ?_
                refine wp_region_lit ?_
                apply seq_op (V := .int .i64 (IntKind.i64.wrap ((k2 : Int) + 1))) rfl
                · exact fun _ h => O_bin rfl rfl rfl eqg_int r_add h
                (try simp only [PT])
                apply seq_op (V := .int .i64 (IntKind.i64.wrap ((k2 : Int) + 1))) rfl
                · exact fun _ h => O_mv rfl rfl h
                (try simp only [PT])
                refine list_end ?_
                refine then_norm ?_
                replace H := H.drop
                refine ⟨⟨⟨rfl, rfl, rfl, rfl, rfl, rfl, rfl, rfl, rfl, rfl, rfl, rfl, rfl, rfl, rfl, rfl, rfl, rfl⟩, rfl⟩, ⟨k2 + 1, r2', sc, hs2, hd2'', wrap_succ hl2 hn2, hq2, H⟩, ?_⟩
                exact meas_succ hl2 hn2
      · have hc1 := hc
        clear hc
        obtain rfl := irng_f hd2 hc1
        rw [assayerref16_State_Same_l2] at hq2
        refine wp_exit ?_
        refine then_exit ?_
        refine then_exit ?_
        have hq2 := Option.some.inj hq2
        subst hq2
        (try dsimp only at hm)
        refine block_exit ?_
        refine then_norm ?_
        refine wp_seq ?_
        refine wp_region_lit ?_
        apply seq_op (V := .bool true) rfl
        · exact fun _ h => O_as rfl rfl h
        (try simp only [PT])
        refine list_end ?_
        refine then_norm ?_
        refine wp_ret ?_
        have hm := Option.some.inj hm
        subst hm
        replace H := H.dropAt 0 rfl; simp only [List.eraseIdx_cons_succ, List.eraseIdx_cons_zero] at H
        replace H := H.forget hS
        exact ret1 rfl (rv_tmp rfl) rfl ⟨rfl, H⟩
noncomputable def assayerlaw16_ModelTexts_f (fuel : Nat) (a0 : List Op') (a1 : List Op') : Option Bool := (assayerlaw16_behind_f fuel a0).bind fun u1 => (assayerlaw16_behind_f fuel a1).bind fun u2 => (model_State_Text_f (⟨u1.1.lists, u1.1.regs⟩ : MSt)).bind fun u3 => (model_State_Text_f (⟨u2.1.lists, u2.1.regs⟩ : MSt)).bind fun u4 => (assayerref16_State_Same_f fuel (⟨u1.2.l⟩ : St16) (⟨u2.2.l⟩ : St16)).bind fun u5 => if ((u3.toList == u4.toList) == u5) = true then ((model_State_Text_f (⟨(model_State_Copy_f (⟨u1.1.lists, u1.1.regs⟩ : MSt)).lists, (model_State_Copy_f (⟨u1.1.lists, u1.1.regs⟩ : MSt)).regs⟩ : MSt)).bind fun u6 => some (u3.toList == u6.toList)) else (some false)

set_option maxHeartbeats 4000000 in
theorem assayerlaw16_ModelTexts_w {E : World} {s : SH} {L : List HP} {w : World} {fuel : Nat} {a0 : List Op'} {a1 : List Op'} (h_gv : Pw s) {A_p0 : Option Addr} {c_p0 : Nat} (h_p0 : kOp.Sl s (.slice A_p0 a0.length c_p0) a0) {A_p1 : Option Addr} {c_p1 : Nat} (h_p1 : kOp.Sl s (.slice A_p1 a1.length c_p1) a1) {R : Bool} (hm : assayerlaw16_ModelTexts_f fuel a0 a1 = some R) (H : Holds E s (L) w) :
    Calls Tryd.prog 9 #[.slice A_p0 a0.length c_p0, .slice A_p1 a1.length c_p1] w fun e w' => e = .returned (.bool R) ∧ Holds E s (L) w' := by
  unfold assayerlaw16_ModelTexts_f at hm
  go_enter Tryd.func9, Tryd.ntmps9
  refine wp_seq ?_
  refine wp_region_lit ?_
  apply seq_op (V := .bool false) rfl
  · exact fun _ h => O_as rfl rfl h
  (try simp only [PT])
  refine list_end ?_
  refine then_norm ?_
  refine wp_seq ?_
  obtain ⟨u1, gx1, hm⟩ := bs hm
  refine wp_region_lit ?_
  apply seq_op (V := .slice A_p0 a0.length c_p0) rfl
  · exact fun _ h => O_mv rfl rfl h
  (try simp only [PT])
  refine seq_call rfl (fun Φ hΦ => by refine O_call1 rfl Tryd.func38 rfl rfl rfl hΦ) (assayerlaw16_behind_w (fuel := fuel) (a0 := a0) (h_p0 := h_p0) (hm := gx1) (H := H)) ?_
  clear H
  rintro e w1 ⟨br10, rr10_lists, rr10_regs, br11, Ar11_l, cr11_l, nr11_l, rfl, H⟩; refine ⟨_, rfl, ?_⟩
  obtain rfl := osl_len 4 H rfl
  (try simp only [PT])
  apply seq_op (V := .tuple #[.pointer (some ⟨br10, 0, none⟩), .pointer (some ⟨br11, 0, none⟩)]) rfl
  · exact fun _ h => O_mv rfl rfl h
  (try simp only [PT])
  apply seq_op (V := .pointer (some ⟨br10, 0, none⟩)) rfl
  · exact fun _ h => O_ext rfl rfl rfl h
  (try simp only [PT])
  apply seq_op (V := .pointer (some ⟨br11, 0, none⟩)) rfl
  · exact fun _ h => O_ext rfl rfl rfl h
  (try simp only [PT])
  apply seq_op (V := .pointer (some ⟨br10, 0, none⟩)) rfl
  · exact fun _ h => O_as rfl rfl h
  (try simp only [PT])
  apply seq_op (V := .pointer (some ⟨br11, 0, none⟩)) rfl
  · exact fun _ h => O_as rfl rfl h
  (try simp only [PT])
  refine list_end ?_
  refine then_norm ?_
  refine wp_seq ?_
  obtain ⟨u2, gx2, hm⟩ := bs hm
  refine wp_region_lit ?_
  apply seq_op (V := .slice A_p1 a1.length c_p1) rfl
  · exact fun _ h => O_mv rfl rfl h
  (try simp only [PT])
  refine seq_call rfl (fun Φ hΦ => by refine O_call1 rfl Tryd.func38 rfl rfl rfl hΦ) (assayerlaw16_behind_w (fuel := fuel) (a0 := a1) (h_p0 := h_p1) (hm := gx2) (H := H)) ?_
  clear H
  rintro e w1 ⟨br20, rr20_lists, rr20_regs, br21, Ar21_l, cr21_l, nr21_l, rfl, H⟩; refine ⟨_, rfl, ?_⟩
  obtain rfl := osl_len 4 H rfl
  (try simp only [PT])
  apply seq_op (V := .tuple #[.pointer (some ⟨br20, 0, none⟩), .pointer (some ⟨br21, 0, none⟩)]) rfl
  · exact fun _ h => O_mv rfl rfl h
  (try simp only [PT])
  apply seq_op (V := .pointer (some ⟨br20, 0, none⟩)) rfl
  · exact fun _ h => O_ext rfl rfl rfl h
  (try simp only [PT])
  apply seq_op (V := .pointer (some ⟨br21, 0, none⟩)) rfl
  · exact fun _ h => O_ext rfl rfl rfl h
  (try simp only [PT])
  apply seq_op (V := .pointer (some ⟨br20, 0, none⟩)) rfl
  · exact fun _ h => O_as rfl rfl h
  (try simp only [PT])
  apply seq_op (V := .pointer (some ⟨br21, 0, none⟩)) rfl
  · exact fun _ h => O_as rfl rfl h
  (try simp only [PT])
  refine list_end ?_
  refine then_norm ?_
  refine wp_seq ?_
  refine wp_seq ?_
  refine wp_region_lit ?_
  apply seq_op (V := .pointer (some ⟨br10, 0, none⟩)) rfl
  · exact fun _ h => O_mv rfl rfl h
  (try simp only [PT])
  apply seq_op (V := .bool false) rfl
  · exact fun _ h => O_bin rfl rfl rfl eqg_ptr (r_pnil Tryd.underlying78) h
  (try simp only [PT])
  apply seq_op (V := .bool false) rfl
  · exact fun _ h => O_mv rfl rfl h
  (try simp only [PT])
  refine seq_opw (V := .pointer (some ⟨br20, 0, none⟩)) ((wanted_f rfl rfl rfl).trans (congrArg not rfl)) ?_ ?_
  · exact fun _ h => O_mv rfl rfl h
  (try simp only [PT])
  refine seq_opw (V := .bool false) ((wanted_f rfl rfl rfl).trans (congrArg not rfl)) ?_ ?_
  · exact fun _ h => O_bin rfl rfl rfl eqg_ptr (r_pnil Tryd.underlying78) h
  (try simp only [PT])
  apply seq_op (V := .bool false) rfl
  · exact fun _ h => O_pickF rfl rfl rfl rfl h
  (try simp only [PT])
  refine list_end ?_
  refine then_norm ?_
  refine wp_cond_false rfl ?_
  refine wp_skip ?_
  refine then_norm ?_
  refine wp_seq ?_
  obtain ⟨u3, gx3, hm⟩ := bs hm
  obtain ⟨u4, gx4, hm⟩ := bs hm
  obtain ⟨u5, gx5, hm⟩ := bs hm
  rcases Bool.eq_false_or_eq_true ((u3.toList == u4.toList) == u5) with hg1 | hg1
  · replace hm := ifT hg1 hm
    obtain ⟨u6, gx6, hm⟩ := bs hm
    refine wp_region_lit ?_
    apply seq_op (V := .pointer (some ⟨br10, 0, none⟩)) rfl
    · exact fun _ h => O_mv rfl rfl h
    (try simp only [PT])
    refine seq_opH (V := .string u3) H rfl ?_ ?_
    · intro Φ hΦ; refine O_call1 rfl Tryd.func39 rfl rfl rfl ?_; obtain ⟨sl0, hsl0, hb0, H, bk0, bg0⟩ := lendAt 5 rfl H; simp only [List.eraseIdx_cons_succ, List.eraseIdx_cons_zero, List.cons_append] at H bk0; obtain ⟨sl1, hsl1, hb1, H, bk1, bg1⟩ := lendMapO 5 rfl hsl0 H; simp only [List.eraseIdx_cons_succ, List.eraseIdx_cons_zero, List.cons_append] at H bk1; obtain ⟨sl2, hsl2, hb2, H, bk2, bg2⟩ := lendMapF 5 rfl H; simp only [List.eraseIdx_cons_succ, List.eraseIdx_cons_zero, List.cons_append] at H bk2; refine (model_State_Text_w (a0 := (⟨u1.1.lists, u1.1.regs⟩ : MSt)) (hC_p0 := ((Cells.ofB hb0).mono (hsl1.trans hsl2))) (h_p0_lists := (hb1.mono hsl2)) (h_p0_regs := hb2) (h_gv := (h_gv.mono ((hsl0.trans hsl1).trans hsl2))) (hm := gx3) (H := H)).mono ?_; rintro e w2 ⟨rfl, H⟩; have H := bk2 H; have H := bk1 H; have H := bk0 H; exact ⟨_, rfl, hΦ _ H⟩
    clear H; intro w1 H
    (try simp only [PT])
    apply seq_op (V := .pointer (some ⟨br20, 0, none⟩)) rfl
    · exact fun _ h => O_mv rfl rfl h
    (try simp only [PT])
    refine seq_opH (V := .string u4) H rfl ?_ ?_
    · intro Φ hΦ; refine O_call1 rfl Tryd.func39 rfl rfl rfl ?_; obtain ⟨sl0, hsl0, hb0, H, bk0, bg0⟩ := lendAt 0 rfl H; simp only [List.eraseIdx_cons_succ, List.eraseIdx_cons_zero, List.cons_append] at H bk0; obtain ⟨sl1, hsl1, hb1, H, bk1, bg1⟩ := lendMapO 0 rfl hsl0 H; simp only [List.eraseIdx_cons_succ, List.eraseIdx_cons_zero, List.cons_append] at H bk1; obtain ⟨sl2, hsl2, hb2, H, bk2, bg2⟩ := lendMapF 0 rfl H; simp only [List.eraseIdx_cons_succ, List.eraseIdx_cons_zero, List.cons_append] at H bk2; refine (model_State_Text_w (a0 := (⟨u2.1.lists, u2.1.regs⟩ : MSt)) (hC_p0 := ((Cells.ofB hb0).mono (hsl1.trans hsl2))) (h_p0_lists := (hb1.mono hsl2)) (h_p0_regs := hb2) (h_gv := (h_gv.mono ((hsl0.trans hsl1).trans hsl2))) (hm := gx4) (H := H)).mono ?_; rintro e w2 ⟨rfl, H⟩; have H := bk2 H; have H := bk1 H; have H := bk0 H; exact ⟨_, rfl, hΦ _ H⟩
    clear H; intro w1 H
    (try simp only [PT])
    apply seq_op (V := .bool (u3.toList == u4.toList)) rfl
    · exact fun _ h => O_bin rfl rfl rfl eqg_str r_seq h
    (try simp only [PT])
    apply seq_op (V := .pointer (some ⟨br11, 0, none⟩)) rfl
    · exact fun _ h => O_mv rfl rfl h
    (try simp only [PT])
    apply seq_op (V := .pointer (some ⟨br21, 0, none⟩)) rfl
    · exact fun _ h => O_mv rfl rfl h
    (try simp only [PT])
    refine seq_opH (V := .bool u5) H rfl ?_ ?_
    · intro Φ hΦ; refine O_call2 rfl Tryd.func40 rfl rfl rfl rfl ?_; obtain ⟨sl0, hsl0, hb0, H, bk0, bg0⟩ := lendAt 8 rfl H; simp only [List.eraseIdx_cons_succ, List.eraseIdx_cons_zero, List.cons_append] at H bk0; obtain ⟨sl1, hsl1, hb1, H, bk1, bg1⟩ := lendOsl 8 rfl hsl0 H; simp only [List.eraseIdx_cons_succ, List.eraseIdx_cons_zero, List.cons_append] at H bk1; obtain ⟨sl2, hsl2, hb2, H, bk2, bg2⟩ := lendAt 3 rfl H; simp only [List.eraseIdx_cons_succ, List.eraseIdx_cons_zero, List.cons_append] at H bk2; obtain ⟨sl3, hsl3, hb3, H, bk3, bg3⟩ := lendOsl 3 rfl ((hsl0.trans hsl1).trans hsl2) H; simp only [List.eraseIdx_cons_succ, List.eraseIdx_cons_zero, List.cons_append] at H bk3; refine (assayerref16_State_Same_w (fuel := fuel) (a0 := (⟨u1.2.l⟩ : St16)) (hC_p0 := ((Cells.ofB hb0).mono ((hsl1.trans hsl2).trans hsl3))) (h_p0_l := (hb1.mono (hsl2.trans hsl3))) (a1 := (⟨u2.2.l⟩ : St16)) (hC_p1 := ((Cells.ofB hb2).mono hsl3)) (h_p1_l := hb3) (hm := gx5) (H := H)).mono ?_; rintro e w2 ⟨rfl, H⟩; have H := bk3 H; have H := bk2 H; have H := bk1 H; have H := bk0 H; exact ⟨_, rfl, hΦ _ H⟩
    clear H; intro w1 H
    (try simp only [PT])
    apply seq_op (V := .bool ((u3.toList == u4.toList) == u5)) rfl
    · exact fun _ h => O_bin rfl rfl rfl eqg_bool (r_beq Tryd.underlying4) h
    (try simp only [PT])
    apply seq_op (V := .bool ((u3.toList == u4.toList) == u5)) rfl
    · exact fun _ h => O_mv rfl rfl h
    (try simp only [PT])
    refine seq_opw (V := .pointer (some ⟨br10, 0, none⟩)) ((wanted_t rfl rfl rfl).trans hg1) ?_ ?_
    · exact fun _ h => O_mv rfl rfl h
    (try simp only [PT])
    refine seq_opHw (V := .string u3) H ((wanted_t rfl rfl rfl).trans hg1) ?_ ?_
    · intro Φ hΦ; refine O_call1 rfl Tryd.func39 rfl rfl rfl ?_; obtain ⟨sl0, hsl0, hb0, H, bk0, bg0⟩ := lendAt 5 rfl H; simp only [List.eraseIdx_cons_succ, List.eraseIdx_cons_zero, List.cons_append] at H bk0; obtain ⟨sl1, hsl1, hb1, H, bk1, bg1⟩ := lendMapO 5 rfl hsl0 H; simp only [List.eraseIdx_cons_succ, List.eraseIdx_cons_zero, List.cons_append] at H bk1; obtain ⟨sl2, hsl2, hb2, H, bk2, bg2⟩ := lendMapF 5 rfl H; simp only [List.eraseIdx_cons_succ, List.eraseIdx_cons_zero, List.cons_append] at H bk2; refine (model_State_Text_w (a0 := (⟨u1.1.lists, u1.1.regs⟩ : MSt)) (hC_p0 := ((Cells.ofB hb0).mono (hsl1.trans hsl2))) (h_p0_lists := (hb1.mono hsl2)) (h_p0_regs := hb2) (h_gv := (h_gv.mono ((hsl0.trans hsl1).trans hsl2))) (hm := gx3) (H := H)).mono ?_; rintro e w2 ⟨rfl, H⟩; have H := bk2 H; have H := bk1 H; have H := bk0 H; exact ⟨_, rfl, hΦ _ H⟩
    clear H; intro w1 H
    (try simp only [PT])
    refine seq_opw (V := .pointer (some ⟨br10, 0, none⟩)) ((wanted_t rfl rfl rfl).trans hg1) ?_ ?_
    · exact fun _ h => O_mv rfl rfl h
    (try simp only [PT])
    obtain ⟨sl0, hsl0, hb0, H, bk0, bg0⟩ := lendAt 5 rfl H; simp only [List.eraseIdx_cons_succ, List.eraseIdx_cons_zero, List.cons_append] at H bk0
    obtain ⟨sl1, hsl1, hb1, H, bk1, bg1⟩ := lendMapO 5 rfl hsl0 H; simp only [List.eraseIdx_cons_succ, List.eraseIdx_cons_zero, List.cons_append] at H bk1
    obtain ⟨sl2, hsl2, hb2, H, bk2, bg2⟩ := lendMapF 5 rfl H; simp only [List.eraseIdx_cons_succ, List.eraseIdx_cons_zero, List.cons_append] at H bk2
    refine seq_callw ((wanted_t rfl rfl rfl).trans hg1) (fun Φ hΦ => by refine O_call1 rfl Tryd.func41 rfl rfl rfl hΦ) (model_State_Copy_w (a0 := (⟨u1.1.lists, u1.1.regs⟩ : MSt)) (hC_p0 := ((Cells.ofB hb0).mono (hsl1.trans hsl2))) (h_p0_lists := (hb1.mono hsl2)) (h_p0_regs := hb2) (H := H)) ?_
    clear H
    rintro e w1 ⟨br30, rr30_lists, rr30_regs, rfl, H⟩; refine ⟨_, rfl, ?_⟩
    replace H := Holds.mapAt 1 rfl (fun h k => mpO_pure (s0 := sl2) (s1 := s) kI_pure h k) H; simp only [List.set_cons_succ, List.set_cons_zero] at H
    have H := bg2 H
    have H := bg1 H
    have H := bg0 H
    (try simp only [PT])
    refine seq_opHw (V := .string u6) H ((wanted_t rfl rfl rfl).trans hg1) ?_ ?_
    · intro Φ hΦ; refine O_call1 rfl Tryd.func39 rfl rfl rfl ?_; obtain ⟨sl0, hsl0, hb0, H, bk0, bg0⟩ := lendAt 3 rfl H; simp only [List.eraseIdx_cons_succ, List.eraseIdx_cons_zero, List.cons_append] at H bk0; obtain ⟨sl1, hsl1, hb1, H, bk1, bg1⟩ := lendMapO 3 rfl hsl0 H; simp only [List.eraseIdx_cons_succ, List.eraseIdx_cons_zero, List.cons_append] at H bk1; obtain ⟨sl2, hsl2, hb2, H, bk2, bg2⟩ := lendMapF 3 rfl H; simp only [List.eraseIdx_cons_succ, List.eraseIdx_cons_zero, List.cons_append] at H bk2; refine (model_State_Text_w (a0 := (⟨(model_State_Copy_f (⟨u1.1.lists, u1.1.regs⟩ : MSt)).lists, (model_State_Copy_f (⟨u1.1.lists, u1.1.regs⟩ : MSt)).regs⟩ : MSt)) (hC_p0 := ((Cells.ofB hb0).mono (hsl1.trans hsl2))) (h_p0_lists := (hb1.mono hsl2)) (h_p0_regs := hb2) (h_gv := (h_gv.mono ((hsl0.trans hsl1).trans hsl2))) (hm := gx6) (H := H)).mono ?_; rintro e w2 ⟨rfl, H⟩; have H := bk2 H; have H := bk1 H; have H := bk0 H; exact ⟨_, rfl, hΦ _ H⟩
    clear H; intro w1 H
    (try simp only [PT])
    refine seq_opw (V := .bool (u3.toList == u6.toList)) ((wanted_t rfl rfl rfl).trans hg1) ?_ ?_
    · exact fun _ h => O_bin rfl rfl rfl eqg_str r_seq h
    (try simp only [PT])
    apply seq_op (V := .bool (u3.toList == u6.toList)) rfl
    · exact fun _ h => O_pickT rfl rfl hg1 rfl h
    (try simp only [PT])
    apply seq_op (V := .bool (u3.toList == u6.toList)) rfl
    · exact fun _ h => O_as rfl rfl h
    (try simp only [PT])
    refine list_end ?_
    refine then_norm ?_
    refine wp_ret ?_
    have hm := Option.some.inj hm
    subst hm
    replace H := H.dropAt 12 rfl; simp only [List.eraseIdx_cons_succ, List.eraseIdx_cons_zero] at H
    replace H := H.dropAt 11 rfl; simp only [List.eraseIdx_cons_succ, List.eraseIdx_cons_zero] at H
    replace H := H.dropAt 10 rfl; simp only [List.eraseIdx_cons_succ, List.eraseIdx_cons_zero] at H
    replace H := H.dropAt 9 rfl; simp only [List.eraseIdx_cons_succ, List.eraseIdx_cons_zero] at H
    replace H := H.dropAt 8 rfl; simp only [List.eraseIdx_cons_succ, List.eraseIdx_cons_zero] at H
    replace H := H.dropAt 7 rfl; simp only [List.eraseIdx_cons_succ, List.eraseIdx_cons_zero] at H
    replace H := H.dropAt 6 rfl; simp only [List.eraseIdx_cons_succ, List.eraseIdx_cons_zero] at H
    replace H := H.dropAt 5 rfl; simp only [List.eraseIdx_cons_succ, List.eraseIdx_cons_zero] at H
    replace H := H.dropAt 4 rfl; simp only [List.eraseIdx_cons_succ, List.eraseIdx_cons_zero] at H
    replace H := H.dropAt 3 rfl; simp only [List.eraseIdx_cons_succ, List.eraseIdx_cons_zero] at H
    replace H := H.dropAt 2 rfl; simp only [List.eraseIdx_cons_succ, List.eraseIdx_cons_zero] at H
    replace H := H.dropAt 1 rfl; simp only [List.eraseIdx_cons_succ, List.eraseIdx_cons_zero] at H
    replace H := H.dropAt 0 rfl; simp only [List.eraseIdx_cons_succ, List.eraseIdx_cons_zero] at H
    exact ret1 rfl (rv_tmp rfl) rfl ⟨rfl, H⟩
  · replace hm := ifF hg1 hm
    refine wp_region_lit ?_
    apply seq_op (V := .pointer (some ⟨br10, 0, none⟩)) rfl
    · exact fun _ h => O_mv rfl rfl h
    (try simp only [PT])
    refine seq_opH (V := .string u3) H rfl ?_ ?_
    · intro Φ hΦ; refine O_call1 rfl Tryd.func39 rfl rfl rfl ?_; obtain ⟨sl0, hsl0, hb0, H, bk0, bg0⟩ := lendAt 5 rfl H; simp only [List.eraseIdx_cons_succ, List.eraseIdx_cons_zero, List.cons_append] at H bk0; obtain ⟨sl1, hsl1, hb1, H, bk1, bg1⟩ := lendMapO 5 rfl hsl0 H; simp only [List.eraseIdx_cons_succ, List.eraseIdx_cons_zero, List.cons_append] at H bk1; obtain ⟨sl2, hsl2, hb2, H, bk2, bg2⟩ := lendMapF 5 rfl H; simp only [List.eraseIdx_cons_succ, List.eraseIdx_cons_zero, List.cons_append] at H bk2; refine (model_State_Text_w (a0 := (⟨u1.1.lists, u1.1.regs⟩ : MSt)) (hC_p0 := ((Cells.ofB hb0).mono (hsl1.trans hsl2))) (h_p0_lists := (hb1.mono hsl2)) (h_p0_regs := hb2) (h_gv := (h_gv.mono ((hsl0.trans hsl1).trans hsl2))) (hm := gx3) (H := H)).mono ?_; rintro e w2 ⟨rfl, H⟩; have H := bk2 H; have H := bk1 H; have H := bk0 H; exact ⟨_, rfl, hΦ _ H⟩
    clear H; intro w1 H
    (try simp only [PT])
    apply seq_op (V := .pointer (some ⟨br20, 0, none⟩)) rfl
    · exact fun _ h => O_mv rfl rfl h
    (try simp only [PT])
    refine seq_opH (V := .string u4) H rfl ?_ ?_
    · intro Φ hΦ; refine O_call1 rfl Tryd.func39 rfl rfl rfl ?_; obtain ⟨sl0, hsl0, hb0, H, bk0, bg0⟩ := lendAt 0 rfl H; simp only [List.eraseIdx_cons_succ, List.eraseIdx_cons_zero, List.cons_append] at H bk0; obtain ⟨sl1, hsl1, hb1, H, bk1, bg1⟩ := lendMapO 0 rfl hsl0 H; simp only [List.eraseIdx_cons_succ, List.eraseIdx_cons_zero, List.cons_append] at H bk1; obtain ⟨sl2, hsl2, hb2, H, bk2, bg2⟩ := lendMapF 0 rfl H; simp only [List.eraseIdx_cons_succ, List.eraseIdx_cons_zero, List.cons_append] at H bk2; refine (model_State_Text_w (a0 := (⟨u2.1.lists, u2.1.regs⟩ : MSt)) (hC_p0 := ((Cells.ofB hb0).mono (hsl1.trans hsl2))) (h_p0_lists := (hb1.mono hsl2)) (h_p0_regs := hb2) (h_gv := (h_gv.mono ((hsl0.trans hsl1).trans hsl2))) (hm := gx4) (H := H)).mono ?_; rintro e w2 ⟨rfl, H⟩; have H := bk2 H; have H := bk1 H; have H := bk0 H; exact ⟨_, rfl, hΦ _ H⟩
    clear H; intro w1 H
    (try simp only [PT])
    apply seq_op (V := .bool (u3.toList == u4.toList)) rfl
    · exact fun _ h => O_bin rfl rfl rfl eqg_str r_seq h
    (try simp only [PT])
    apply seq_op (V := .pointer (some ⟨br11, 0, none⟩)) rfl
    · exact fun _ h => O_mv rfl rfl h
    (try simp only [PT])
    apply seq_op (V := .pointer (some ⟨br21, 0, none⟩)) rfl
    · exact fun _ h => O_mv rfl rfl h
    (try simp only [PT])
    refine seq_opH (V := .bool u5) H rfl ?_ ?_
    · intro Φ hΦ; refine O_call2 rfl Tryd.func40 rfl rfl rfl rfl ?_; obtain ⟨sl0, hsl0, hb0, H, bk0, bg0⟩ := lendAt 8 rfl H; simp only [List.eraseIdx_cons_succ, List.eraseIdx_cons_zero, List.cons_append] at H bk0; obtain ⟨sl1, hsl1, hb1, H, bk1, bg1⟩ := lendOsl 8 rfl hsl0 H; simp only [List.eraseIdx_cons_succ, List.eraseIdx_cons_zero, List.cons_append] at H bk1; obtain ⟨sl2, hsl2, hb2, H, bk2, bg2⟩ := lendAt 3 rfl H; simp only [List.eraseIdx_cons_succ, List.eraseIdx_cons_zero, List.cons_append] at H bk2; obtain ⟨sl3, hsl3, hb3, H, bk3, bg3⟩ := lendOsl 3 rfl ((hsl0.trans hsl1).trans hsl2) H; simp only [List.eraseIdx_cons_succ, List.eraseIdx_cons_zero, List.cons_append] at H bk3; refine (assayerref16_State_Same_w (fuel := fuel) (a0 := (⟨u1.2.l⟩ : St16)) (hC_p0 := ((Cells.ofB hb0).mono ((hsl1.trans hsl2).trans hsl3))) (h_p0_l := (hb1.mono (hsl2.trans hsl3))) (a1 := (⟨u2.2.l⟩ : St16)) (hC_p1 := ((Cells.ofB hb2).mono hsl3)) (h_p1_l := hb3) (hm := gx5) (H := H)).mono ?_; rintro e w2 ⟨rfl, H⟩; have H := bk3 H; have H := bk2 H; have H := bk1 H; have H := bk0 H; exact ⟨_, rfl, hΦ _ H⟩
    clear H; intro w1 H
    (try simp only [PT])
    apply seq_op (V := .bool ((u3.toList == u4.toList) == u5)) rfl
    · exact fun _ h => O_bin rfl rfl rfl eqg_bool (r_beq Tryd.underlying4) h
    (try simp only [PT])
    apply seq_op (V := .bool ((u3.toList == u4.toList) == u5)) rfl
    · exact fun _ h => O_mv rfl rfl h
    (try simp only [PT])
    refine seq_skip ((wanted_t rfl rfl rfl).trans hg1) ?_
    (try simp only [PT])
    refine seq_skip ((wanted_t rfl rfl rfl).trans hg1) ?_
    (try simp only [PT])
    refine seq_skip ((wanted_t rfl rfl rfl).trans hg1) ?_
    (try simp only [PT])
    refine seq_skip ((wanted_t rfl rfl rfl).trans hg1) ?_
    (try simp only [PT])
    refine seq_skip ((wanted_t rfl rfl rfl).trans hg1) ?_
    (try simp only [PT])
    refine seq_skip ((wanted_t rfl rfl rfl).trans hg1) ?_
    (try simp only [PT])
    apply seq_op (V := .bool false) rfl
    · exact fun _ h => O_pickF rfl rfl hg1 rfl h
    (try simp only [PT])
    apply seq_op (V := .bool false) rfl
    · exact fun _ h => O_as rfl rfl h
    (try simp only [PT])
    refine list_end ?_
    refine then_norm ?_
    refine wp_ret ?_
    have hm := Option.some.inj hm
    subst hm
    replace H := H.dropAt 9 rfl; simp only [List.eraseIdx_cons_succ, List.eraseIdx_cons_zero] at H
    replace H := H.dropAt 8 rfl; simp only [List.eraseIdx_cons_succ, List.eraseIdx_cons_zero] at H
    replace H := H.dropAt 7 rfl; simp only [List.eraseIdx_cons_succ, List.eraseIdx_cons_zero] at H
    replace H := H.dropAt 6 rfl; simp only [List.eraseIdx_cons_succ, List.eraseIdx_cons_zero] at H
    replace H := H.dropAt 5 rfl; simp only [List.eraseIdx_cons_succ, List.eraseIdx_cons_zero] at H
    replace H := H.dropAt 4 rfl; simp only [List.eraseIdx_cons_succ, List.eraseIdx_cons_zero] at H
    replace H := H.dropAt 3 rfl; simp only [List.eraseIdx_cons_succ, List.eraseIdx_cons_zero] at H
    replace H := H.dropAt 2 rfl; simp only [List.eraseIdx_cons_succ, List.eraseIdx_cons_zero] at H
    replace H := H.dropAt 1 rfl; simp only [List.eraseIdx_cons_succ, List.eraseIdx_cons_zero] at H
    replace H := H.dropAt 0 rfl; simp only [List.eraseIdx_cons_succ, List.eraseIdx_cons_zero] at H
    exact ret1 rfl (rv_tmp rfl) rfl ⟨rfl, H⟩
end Go.Proofs.YtemdmpgekegfhaaDoor
