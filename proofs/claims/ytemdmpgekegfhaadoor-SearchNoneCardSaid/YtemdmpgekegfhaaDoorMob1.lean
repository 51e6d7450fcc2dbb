/- Walks, printed by fx.py: part 1. -/
import Derived.Test.YtemdmpgekegfhaaDoorKinds
import Derived.Test.YtemdmpgekegfhaaDoorDrawP
import Derived.Test.YtemdmpgekegfhaaDoorOwnT
import Derived.Test.YtemdmpgekegfhaaDoorErr
import Derived.Test.YtemdmpgekegfhaaDoorAsW
import Derived.Test.YtemdmpgekegfhaaDoorRet
import Derived.Test.YtemdmpgekegfhaaDoorSmallS
namespace Go.Proofs.YtemdmpgekegfhaaDoor
open Go.RowKit
set_option linter.all false
set_option maxRecDepth 10000
def model_New_f  : MSt := (⟨fnil, fnil⟩ : MSt)

set_option maxHeartbeats 4000000 in
theorem model_New_w {E : World} {s : SH} {L : List HP} {w : World}  (H : Holds E s (L) w) :
    Calls Tryd.prog 46 #[] w fun e w' => ∃ b0 r0_lists r0_regs, e = .returned (.pointer (some ⟨b0, 0, none⟩)) ∧ Holds E s (pt b0 (.cells #[.map (some r0_lists), .map (some r0_regs)] 91 (0, 0)) :: mpO kcS kI s r0_lists ((model_New_f).lists) :: mpF kcS vcI r0_regs ((model_New_f).regs) :: L) w' := by
  obtain ⟨R, hm⟩ : ∃ R, model_New_f = R := ⟨_, rfl⟩
  (try rw [hm])
  unfold model_New_f at hm
  go_enter Tryd.func46, Tryd.ntmps46
  refine wp_seq ?_
  refine wp_region_lit ?_
  apply seq_op (V := .pointer none) rfl
  · exact fun _ h => O_as rfl rfl h
  (try simp only [PT])
  refine list_end ?_
  refine then_norm ?_
  refine wp_seq ?_
  refine wp_region_lit ?_
  refine OpG.list rfl ?_; refine O_make (K := kcS) (d := kI) s 88 rfl H ?_; clear H; intro r1 w1 H
  (try simp only [PT])
  refine OpG.list rfl ?_; refine F_make (K := kcS) (V := vcI) 89 rfl H ?_; clear H; intro r2 w1 H
  (try simp only [PT])
  apply seq_op (V := .agg #[.map (some r1), .map (some r2)]) rfl
  · exact fun _ h => O_bld (cs := [.map (some r1), .map (some r2)]) rfl (by kernel_rfl) h
  (try simp only [PT])
  refine OpG.list rfl ?_; refine B_x 91 _ rfl (v := .agg #[.map (some r1), .map (some r2)]) rfl H ?_; clear H; intro b4 w1 H; (try simp only [Value.cells] at H)
  (try simp only [PT])
  apply seq_op (V := .pointer (some ⟨b4, 0, none⟩)) rfl
  · exact fun _ h => O_as rfl rfl h
  (try simp only [PT])
  refine list_end ?_
  refine then_norm ?_
  refine wp_ret ?_
  subst hm
  replace H := H.front 1 rfl; simp only [List.eraseIdx_cons_succ, List.eraseIdx_cons_zero] at H
  replace H := H.front 2 rfl; simp only [List.eraseIdx_cons_succ, List.eraseIdx_cons_zero] at H
  replace H := H.front 2 rfl; simp only [List.eraseIdx_cons_succ, List.eraseIdx_cons_zero] at H
  exact ret1 rfl (rv_tmp rfl) rfl ⟨b4, r1, r2, rfl, H⟩
def model_State_none_f (a0 : MSt) : Bool := false

set_option maxHeartbeats 4000000 in
theorem model_State_none_w {E : World} {s : SH} {L : List HP} {w : World} {a0 : MSt} {r_p0_lists : Nat} (h_p0_lists : MapKO kcS kI s r_p0_lists a0.lists) {r_p0_regs : Nat} (h_p0_regs : MapKF kcS vcI s r_p0_regs a0.regs) {b_p0 o_p0 : Nat} (hC_p0 : Cells s ⟨b_p0, o_p0, none⟩ [.map (some r_p0_lists), .map (some r_p0_regs)]) (H : Holds E s (L) w) :
    Calls Tryd.prog 81 #[.pointer (some ⟨b_p0, o_p0, none⟩)] w fun e w' => e = .returned (.bool (model_State_none_f a0)) ∧ Holds E s (L) w' := by
  obtain ⟨R, hm⟩ : ∃ R, model_State_none_f a0 = R := ⟨_, rfl⟩
  (try rw [hm])
  unfold model_State_none_f at hm
  go_enter Tryd.func81, Tryd.ntmps81
  refine wp_seq ?_
  refine wp_region_lit ?_
  apply seq_op (V := .bool false) rfl
  · exact fun _ h => O_as rfl rfl h
  (try simp only [PT])
  refine list_end ?_
  refine then_norm ?_
  refine wp_seq ?_
  refine wp_region_lit ?_
  apply seq_op (V := .pointer (some ⟨b_p0, o_p0, none⟩)) rfl
  · exact fun _ h => O_mv rfl rfl h
  (try simp only [PT])
  apply seq_op (V := .bool false) rfl
  · exact fun _ h => O_bin rfl rfl rfl eqg_ptr (r_pnil Tryd.underlying78) h
  (try simp only [PT])
  apply seq_op (V := .bool false) rfl
  · exact fun _ h => O_mv rfl rfl h
  (try simp only [PT])
  refine seq_opw (V := .pointer (some ⟨b_p0, o_p0, none⟩)) ((wanted_f rfl rfl rfl).trans (congrArg not rfl)) ?_ ?_
  · exact fun _ h => O_mv rfl rfl h
  (try simp only [PT])
  refine seq_opw (V := .pointer (some ⟨b_p0, o_p0, none⟩)) ((wanted_f rfl rfl rfl).trans (congrArg not rfl)) ?_ ?_
  · exact fun _ h => O_nil rfl rfl h
  (try simp only [PT])
  refine seq_opw (V := .pointer (some ⟨b_p0, o_p0, none⟩)) ((wanted_f rfl rfl rfl).trans (congrArg not rfl)) ?_ ?_
  · exact fun _ h => O_fld rfl Tryd.underlying91 rfl (Tryd.sizeOf88 _) rfl h
  (try simp only [PT])
  refine seq_opw (V := .map (some r_p0_lists)) ((wanted_f rfl rfl rfl).trans (congrArg not rfl)) ?_ ?_
  · exact fun _ h => G_s1 _ _ rfl (Tryd.isAgg88 _) rfl H hC_p0 0 rfl rfl h
  (try simp only [PT])
  refine seq_opw (V := .bool false) ((wanted_f rfl rfl rfl).trans (congrArg not rfl)) ?_ ?_
  · exact fun _ h => O_bin rfl rfl rfl eqg_map (r_mnil Tryd.underlying88) h
  (try simp only [PT])
  apply seq_op (V := .bool false) rfl
  · exact fun _ h => O_pickF rfl rfl rfl rfl h
  (try simp only [PT])
  apply seq_op (V := .bool false) rfl
  · exact fun _ h => O_as rfl rfl h
  (try simp only [PT])
  refine list_end ?_
  refine then_norm ?_
  refine wp_ret ?_
  subst hm
  exact ret1 rfl (rv_tmp rfl) rfl ⟨rfl, H⟩
def maps_Clone_mapstringint_f (a0 : ByteArray → Option Int) : (ByteArray → Option Int) := a0

set_option maxHeartbeats 4000000 in
theorem maps_Clone_mapstringint_w {E : World} {s : SH} {L : List HP} {w : World} {a0 : ByteArray → Option Int} {r_p0 : Nat} (h_p0 : MapKF kcS vcI s r_p0 a0) (H : Holds E s (L) w) :
    Calls Tryd.prog 93 #[.map (some r_p0)] w fun e w' => ∃ r0, e = .returned (.map (some r0)) ∧ Holds E s (mpF kcS vcI r0 (maps_Clone_mapstringint_f a0) :: L) w' := by
  obtain ⟨R, hm⟩ : ∃ R, maps_Clone_mapstringint_f a0 = R := ⟨_, rfl⟩
  (try rw [hm])
  unfold maps_Clone_mapstringint_f at hm
  go_enter Tryd.func93, Tryd.ntmps93
  refine wp_seq ?_
  refine wp_region_lit ?_
  apply seq_op (V := .map none) rfl
  · exact fun _ h => O_as rfl rfl h
  (try simp only [PT])
  refine list_end ?_
  refine then_norm ?_
  refine wp_seq ?_
  refine wp_seq ?_
  refine wp_region_lit ?_
  apply seq_op (V := .map (some r_p0)) rfl
  · exact fun _ h => O_mv rfl rfl h
  (try simp only [PT])
  apply seq_op (V := .bool false) rfl
  · exact fun _ h => O_bin rfl rfl rfl eqg_map (r_mnil Tryd.underlying89) h
  (try simp only [PT])
  refine list_end ?_
  refine then_norm ?_
  refine wp_cond_false rfl ?_
  refine wp_skip ?_
  refine then_norm ?_
  refine wp_seq ?_
  refine wp_region_lit ?_
  apply seq_op (V := .map (some r_p0)) rfl
  · exact fun _ h => O_mv rfl rfl h
  (try simp only [PT])
  apply seq_op (V := .iface 89 (.map (some r_p0))) rfl
  · exact fun _ h => O_mki rfl Tryd.underlying89 rfl h
  (try simp only [PT])
  refine OpG.list rfl ?_; refine O_mclone (K := kcS) (V := vcI) rfl Tryd.func135 rfl rfl rfl rfl rfl H h_p0 ?_; clear H; intro r7 w1 H
  (try simp only [PT])
  apply seq_op (V := .map (some r7)) rfl
  · exact fun _ h => O_tam rfl Tryd.underlying89 rfl h
  (try simp only [PT])
  apply seq_op (V := .map (some r7)) rfl
  · exact fun _ h => O_as rfl rfl h
  (try simp only [PT])
  refine list_end ?_
  refine then_norm ?_
  refine wp_ret ?_
  subst hm
  exact ret1 rfl (rv_tmp rfl) rfl ⟨r7, rfl, H⟩
def model_State_Copy_f (a0 : MSt) : MSt := (⟨a0.lists, (maps_Clone_mapstringint_f a0.regs)⟩ : MSt)

set_option maxHeartbeats 4000000 in
theorem model_State_Copy_w {E : World} {s : SH} {L : List HP} {w : World} {a0 : MSt} {r_p0_lists : Nat} (h_p0_lists : MapKO kcS kI s r_p0_lists a0.lists) {r_p0_regs : Nat} (h_p0_regs : MapKF kcS vcI s r_p0_regs a0.regs) {b_p0 o_p0 : Nat} (hC_p0 : Cells s ⟨b_p0, o_p0, none⟩ [.map (some r_p0_lists), .map (some r_p0_regs)]) (H : Holds E s (L) w) :
    Calls Tryd.prog 41 #[.pointer (some ⟨b_p0, o_p0, none⟩)] w fun e w' => ∃ b0 r0_lists r0_regs, e = .returned (.pointer (some ⟨b0, 0, none⟩)) ∧ Holds E s (pt b0 (.cells #[.map (some r0_lists), .map (some r0_regs)] 91 (0, 0)) :: mpO kcS kI s r0_lists ((model_State_Copy_f a0).lists) :: mpF kcS vcI r0_regs ((model_State_Copy_f a0).regs) :: L) w' := by
  obtain ⟨R, hm⟩ : ∃ R, model_State_Copy_f a0 = R := ⟨_, rfl⟩
  (try rw [hm])
  unfold model_State_Copy_f at hm
  go_enter Tryd.func41, Tryd.ntmps41
  refine wp_seq ?_
  refine wp_region_lit ?_
  apply seq_op (V := .pointer none) rfl
  · exact fun _ h => O_as rfl rfl h
  (try simp only [PT])
  refine list_end ?_
  refine then_norm ?_
  refine wp_seq ?_
  refine wp_seq ?_
  refine wp_region_lit ?_
  apply seq_op (V := .pointer (some ⟨b_p0, o_p0, none⟩)) rfl
  · exact fun _ h => O_mv rfl rfl h
  (try simp only [PT])
  refine seq_call rfl (fun Φ hΦ => by refine O_call1 rfl Tryd.func81 rfl rfl rfl hΦ) (model_State_none_w (a0 := a0) (hC_p0 := hC_p0) (h_p0_lists := h_p0_lists) (h_p0_regs := h_p0_regs) (H := H)) ?_
  clear H
  rintro e w1 ⟨rfl, H⟩; refine ⟨_, rfl, ?_⟩
  (try simp only [PT])
  refine list_end ?_
  refine then_norm ?_
  refine wp_cond_false rfl ?_
  refine wp_skip ?_
  refine then_norm ?_
  refine wp_seq ?_
  obtain ⟨n1, hn1⟩ := KO_len h_p0_lists
  refine wp_draw_P (k := 13) (sz := 45) [5, 10, 11, 12] [[false, false, false, false], [true, false, false, false], [false, true, false, false], [true, true, false, false], [true, true, true, false], [true, true, true, true]] [(0, 0, 1), (0, 1, 2), (1, 1, 3), (2, 0, 3), (3, 2, 4), (4, 3, 5)] [.pointer (some ⟨b_p0, o_p0, none⟩), .pointer (some ⟨b_p0, o_p0, none⟩), .pointer (some ⟨b_p0, o_p0, none⟩), .map (some r_p0_lists), .int .i64 (n1 : Int), undef, .pointer (some ⟨b_p0, o_p0, none⟩), .pointer (some ⟨b_p0, o_p0, none⟩), .pointer (some ⟨b_p0, o_p0 + 1, none⟩), .map (some r_p0_regs), undef, undef, undef] [] [fun w x => ∃ (r14 : Nat), x 5 = .map (some r14) ∧ Holds E s (mpO kcS kI s r14 fnil :: L) w, fun w x => ∃ (rr190010 : Nat), x 10 = .map (some rr190010) ∧ Holds E s (mpF kcS vcI rr190010 (maps_Clone_mapstringint_f a0.regs) :: L) w, fun w x => ∃ (r14 : Nat) (rr190010 : Nat), x 5 = .map (some r14) ∧ x 10 = .map (some rr190010) ∧ Holds E s (mpF kcS vcI rr190010 (maps_Clone_mapstringint_f a0.regs) :: mpO kcS kI s r14 fnil :: L) w, fun w x => ∃ (r14 : Nat) (rr190010 : Nat), x 5 = .map (some r14) ∧ x 10 = .map (some rr190010) ∧ x 11 = .agg #[.map (some r14), .map (some rr190010)] ∧ Holds E s (mpF kcS vcI rr190010 (maps_Clone_mapstringint_f a0.regs) :: mpO kcS kI s r14 fnil :: L) w, fun w x => ∃ (r14 : Nat) (rr190010 : Nat) (b21 : Nat), x 5 = .map (some r14) ∧ x 10 = .map (some rr190010) ∧ x 11 = .agg #[.map (some r14), .map (some rr190010)] ∧ x 12 = .pointer (some ⟨b21, 0, none⟩) ∧ Holds E s (pt b21 (.cells #[.map (some r14), .map (some rr190010)] 91 (0, 0)) :: mpF kcS vcI rr190010 (maps_Clone_mapstringint_f a0.regs) :: mpO kcS kI s r14 fnil :: L) w] mixed (by simp) rfl (by kernel_rfl) (by kernel_rfl) (by kernel_rfl) (by simp) rfl H (by simp only [List.take_succ_cons, List.take_zero]; exact rfl) (by simp only [List.drop_succ_cons, List.drop_zero]; exact rfl)
    (fun x => by simp only [ov, Act.put, List.setIfInBounds_toArray, List.set_cons_succ, List.set_cons_zero, Nat.zero_add, Nat.reduceAdd]; exact rfl) ?_ ?_ ?_ ?_
  · refine ⟨?_, ?_, ?_, ?_, ?_, ?_, trivial⟩
    · intro w x hS; have H : Holds E s (L) w := hS; exact ⟨_, _, Sub.refl _, H⟩
    · intro w x hS; obtain ⟨r14, e5, H⟩ := hS; exact ⟨_, _, Sub.refl _, H⟩
    · intro w x hS; obtain ⟨rr190010, e10, H⟩ := hS; exact ⟨_, _, Sub.refl _, H⟩
    · intro w x hS; obtain ⟨r14, rr190010, e5, e10, H⟩ := hS; exact ⟨_, _, Sub.refl _, H⟩
    · intro w x hS; obtain ⟨r14, rr190010, e5, e10, e11, H⟩ := hS; exact ⟨_, _, Sub.refl _, H⟩
    · intro w x hS; obtain ⟨r14, rr190010, b21, e5, e10, e11, e12, H⟩ := hS; exact ⟨_, _, Sub.refl _, H⟩
  · refine ⟨?_, ?_, ?_, ?_, ?_, ?_, ?_, ?_, ?_, ?_, ?_, ?_, ?_, trivial⟩
    · refine .inr ?_; intro s' R w' x Φ hs H hx hΦ; refine wantG rfl ?_; refine O_mv rfl rfl ?_; exact hΦ
    · refine .inr ?_; intro s' R w' x Φ hs H hx hΦ; have e0 : x 0 = .pointer (some ⟨b_p0, o_p0, none⟩) := hx 0 (by decide) (by decide); simp only [e0]; refine wantG rfl ?_; refine O_nil rfl rfl ?_; exact hΦ
    · refine .inr ?_; intro s' R w' x Φ hs H hx hΦ; have e1 : x 1 = .pointer (some ⟨b_p0, o_p0, none⟩) := hx 1 (by decide) (by decide); simp only [e1]; refine wantG rfl ?_; refine O_fld rfl Tryd.underlying91 rfl (Tryd.sizeOf88 _) rfl ?_; exact hΦ
    · refine .inr ?_; intro s' R w' x Φ hs H hx hΦ; have e2 : x 2 = .pointer (some ⟨b_p0, o_p0, none⟩) := hx 2 (by decide) (by decide); simp only [e2]; refine wantG rfl ?_; refine G_s1 _ _ rfl (Tryd.isAgg88 _) rfl H (hC_p0.mono hs) 0 rfl rfl ?_; exact hΦ
    · refine .inr ?_; intro s' R w' x Φ hs H hx hΦ; have e3 : x 3 = .map (some r_p0_lists) := hx 3 (by decide) (by decide); simp only [e3]; refine wantG rfl ?_; refine O_lenM 88 rfl Tryd.underlying88 rfl H (lenW hs hn1) ?_; exact hΦ
    · exact .inl (by decide)
    · refine .inr ?_; intro s' R w' x Φ hs H hx hΦ; refine wantG rfl ?_; refine O_mv rfl rfl ?_; exact hΦ
    · refine .inr ?_; intro s' R w' x Φ hs H hx hΦ; have e6 : x 6 = .pointer (some ⟨b_p0, o_p0, none⟩) := hx 6 (by decide) (by decide); simp only [e6]; refine wantG rfl ?_; refine O_nil rfl rfl ?_; exact hΦ
    · refine .inr ?_; intro s' R w' x Φ hs H hx hΦ; have e7 : x 7 = .pointer (some ⟨b_p0, o_p0, none⟩) := hx 7 (by decide) (by decide); simp only [e7]; refine wantG rfl ?_; refine O_fld rfl Tryd.underlying91 rfl (Tryd.sizeOf89 _) rfl ?_; exact hΦ
    · refine .inr ?_; intro s' R w' x Φ hs H hx hΦ; have e8 : x 8 = .pointer (some ⟨b_p0, o_p0 + 1, none⟩) := hx 8 (by decide) (by decide); simp only [e8]; refine wantG rfl ?_; refine G_s1 _ _ rfl (Tryd.isAgg89 _) rfl H (hC_p0.mono hs) 1 rfl rfl ?_; exact hΦ
    · exact .inl (by decide)
    · exact .inl (by decide)
    · exact .inl (by decide)
  · refine ⟨?_, ?_, ?_, ?_, ?_, ?_, trivial⟩
    · intro c o S0 S1 hc ho h0 h1; obtain rfl := Option.some.inj hc; obtain rfl := Option.some.inj ho; obtain rfl := Option.some.inj h0; obtain rfl := Option.some.inj h1; intro w' x Φ hS hx hΦ
      have H : Holds E s (L) w' := hS; clear hS
      have e4 : x 4 = .int .i64 (n1 : Int) := hx 4 (by decide) (by decide)
      simp only [e4]
      refine wantG rfl ?_
      refine O_makeR (K := kcS) (d := kI) s 88 rfl Tryd.underlying88 rfl H ?_; clear H; intro r14 w1 H
      exact hΦ _ _ ⟨r14, updV_same, H⟩
    · intro c o S0 S1 hc ho h0 h1; obtain rfl := Option.some.inj hc; obtain rfl := Option.some.inj ho; obtain rfl := Option.some.inj h0; obtain rfl := Option.some.inj h1; intro w' x Φ hS hx hΦ
      have H : Holds E s (L) w' := hS; clear hS
      have e9 : x 9 = .map (some r_p0_regs) := hx 9 (by decide) (by decide)
      simp only [e9]
      refine wantG rfl ?_
      refine O_call1 rfl Tryd.func93 rfl rfl rfl ?_; refine (maps_Clone_mapstringint_w (a0 := a0.regs) (h_p0 := h_p0_regs) (H := H)).mono ?_
      clear H
      rintro e w1 ⟨rr190010, rfl, H⟩; refine ⟨_, rfl, ?_⟩
      exact hΦ _ _ ⟨rr190010, updV_same, H⟩
    · intro c o S0 S1 hc ho h0 h1; obtain rfl := Option.some.inj hc; obtain rfl := Option.some.inj ho; obtain rfl := Option.some.inj h0; obtain rfl := Option.some.inj h1; intro w' x Φ hS hx hΦ
      obtain ⟨r14, e5, H⟩ := hS
      have e9 : x 9 = .map (some r_p0_regs) := hx 9 (by decide) (by decide)
      simp only [e9]
      refine wantG rfl ?_
      refine O_call1 rfl Tryd.func93 rfl rfl rfl ?_; refine (maps_Clone_mapstringint_w (a0 := a0.regs) (h_p0 := h_p0_regs) (H := H)).mono ?_
      clear H
      rintro e w1 ⟨rr190010, rfl, H⟩; refine ⟨_, rfl, ?_⟩
      exact hΦ _ _ ⟨r14, rr190010, (updV_ne (by decide)).trans e5, updV_same, H⟩
    · intro c o S0 S1 hc ho h0 h1; obtain rfl := Option.some.inj hc; obtain rfl := Option.some.inj ho; obtain rfl := Option.some.inj h0; obtain rfl := Option.some.inj h1; intro w' x Φ hS hx hΦ
      obtain ⟨rr190010, e10, H⟩ := hS
      have e4 : x 4 = .int .i64 (n1 : Int) := hx 4 (by decide) (by decide)
      simp only [e4]
      refine wantG rfl ?_
      refine O_makeR (K := kcS) (d := kI) s 88 rfl Tryd.underlying88 rfl H ?_; clear H; intro r14 w1 H
      replace H := H.front 1 rfl; simp only [List.eraseIdx_cons_succ, List.eraseIdx_cons_zero] at H
      exact hΦ _ _ ⟨r14, rr190010, updV_same, (updV_ne (by decide)).trans e10, H⟩
    · intro c o S0 S1 hc ho h0 h1; obtain rfl := Option.some.inj hc; obtain rfl := Option.some.inj ho; obtain rfl := Option.some.inj h0; obtain rfl := Option.some.inj h1; intro w' x Φ hS hx hΦ
      obtain ⟨r14, rr190010, e5, e10, H⟩ := hS
      simp only [e5, e10]
      refine wantG rfl ?_
      refine O_bld (cs := [.map (some r14), .map (some rr190010)]) rfl (by kernel_rfl) ?_
      exact hΦ _ _ ⟨r14, rr190010, (updV_ne (by decide)).trans e5, (updV_ne (by decide)).trans e10, updV_same, H⟩
    · intro c o S0 S1 hc ho h0 h1; obtain rfl := Option.some.inj hc; obtain rfl := Option.some.inj ho; obtain rfl := Option.some.inj h0; obtain rfl := Option.some.inj h1; intro w' x Φ hS hx hΦ
      obtain ⟨r14, rr190010, e5, e10, e11, H⟩ := hS
      simp only [e11]
      refine wantG rfl ?_
      refine B_x 91 _ rfl (v := .agg #[.map (some r14), .map (some rr190010)]) rfl H ?_; clear H; intro b21 w1 H; (try simp only [Value.cells] at H)
      exact hΦ _ _ ⟨r14, rr190010, b21, (updV_ne (by decide)).trans e5, (updV_ne (by decide)).trans e10, (updV_ne (by decide)).trans e11, updV_same, H⟩
  · clear H
    intro w' x hS hx
    obtain ⟨r14, rr190010, b21, e5, e10, e11, e12, H⟩ := hS
    have e0 : x 0 = .pointer (some ⟨b_p0, o_p0, none⟩) := hx 0 (by decide) (by decide)
    have e1 : x 1 = .pointer (some ⟨b_p0, o_p0, none⟩) := hx 1 (by decide) (by decide)
    have e2 : x 2 = .pointer (some ⟨b_p0, o_p0, none⟩) := hx 2 (by decide) (by decide)
    have e3 : x 3 = .map (some r_p0_lists) := hx 3 (by decide) (by decide)
    have e4 : x 4 = .int .i64 (n1 : Int) := hx 4 (by decide) (by decide)
    have e6 : x 6 = .pointer (some ⟨b_p0, o_p0, none⟩) := hx 6 (by decide) (by decide)
    have e7 : x 7 = .pointer (some ⟨b_p0, o_p0, none⟩) := hx 7 (by decide) (by decide)
    have e8 : x 8 = .pointer (some ⟨b_p0, o_p0 + 1, none⟩) := hx 8 (by decide) (by decide)
    have e9 : x 9 = .map (some r_p0_regs) := hx 9 (by decide) (by decide)
    simp only [e0, e1, e2, e3, e4, e5, e6, e7, e8, e9, e10, e11, e12]
    clear hx
    apply seq_op (V := .pointer (some ⟨b21, 0, none⟩)) rfl
    · exact fun _ h => O_as rfl rfl h
    (try simp only [PT])
    refine list_end ?_
    refine then_norm ?_
    refine wp_seq ?_
    refine wp_seq ?_
    refine wp_region_lit ?_
    apply seq_op (V := .pointer (some ⟨b_p0, o_p0, none⟩)) rfl
    · exact fun _ h => O_mv rfl rfl h
    (try simp only [PT])
    apply seq_op (V := .pointer (some ⟨b_p0, o_p0, none⟩)) rfl
    · exact fun _ h => O_nil rfl rfl h
    (try simp only [PT])
    apply seq_op (V := .pointer (some ⟨b_p0, o_p0, none⟩)) rfl
    · exact fun _ h => O_fld rfl Tryd.underlying91 rfl (Tryd.sizeOf88 _) rfl h
    (try simp only [PT])
    apply seq_op (V := .map (some r_p0_lists)) rfl
    · exact fun _ h => G_s1 _ _ rfl (Tryd.isAgg88 _) rfl H hC_p0 0 rfl rfl h
    (try simp only [PT])
    obtain ⟨mm1, vsm1, ⟨hmm1, hum1, hokm1, hlm1⟩, ⟨esm1, cm1, hrm1, hem1, hwfm1⟩, hslm1⟩ := id h_p0_lists
    refine OpG.list rfl ?_; refine G_rangeS 88 _ rfl Tryd.underlying88 rfl H hrm1 ?_; clear H; intro itm1 w1 H
    (try simp only [PT])
    refine list_end ?_
    refine then_norm ?_
    refine wp_block ?_
    refine wp_loopN [none, none, none, none, some 4, some 5, some 6, none, none, none, none, none, none, none, none, none, none, none, none, none, none, none, none, none, none, none, none, some 27, some 28, some 29, some 30, some 31, some 32, some 33, some 34, some 35, some 36, some 37, some 38, some 39, some 40, some 41, some 42, some 43, none] rfl (by simp) (fun n f w => ∃ (seen : Array Nat) (done : List MapEntry) (g : ByteArray → Option (List Int)), n = esm1.size - done.length ∧ seen.toList = done.map (·.born) ∧ (∀ e ∈ done, e ∈ esm1.toList) ∧ (done.map (·.born)).Nodup ∧ (∀ k, (∃ e ∈ done, e.key = kcS.enc k) → g k = a0.lists k) ∧ (∀ k, (¬ ∃ e ∈ done, e.key = kcS.enc k) → g k = none) ∧ Holds E s (pt itm1 (.mapIter (some r_p0_lists) cm1 seen cm1) :: pt b21 (.cells #[.map (some r14), .map (some rr190010)] 91 (0, 0)) :: mpF kcS vcI rr190010 (maps_Clone_mapstringint_f a0.regs) :: mpO kcS kI s r14 g :: L) w) ?_ ?_
    · exact ⟨_, #[], [], fnil, rfl, rfl, (fun e h => (List.not_mem_nil h).elim), List.Pairwise.nil, (fun k ⟨e, h, _⟩ => (List.not_mem_nil h).elim), (fun k _ => rfl), H⟩
    · clear H
      intro n f w hI
      obtain ⟨seen, done, g, hn, hseen, hd, hnd, hg1, hg2, H⟩ := hI
      simp only [ovm, mixM]
      refine wp_seq ?_
      refine wp_region_lit ?_
      refine OpG.list rfl ?_; refine G_nextS 0 _ rfl rfl H rfl hrm1 hwfm1 ?_; clear H; intro b e w1 hb1 hb2 H; simp only [List.set_cons_succ, List.set_cons_zero] at H
      (try simp only [PT])
      refine OpG.list rfl ?_; refine G_extract0 _ rfl rfl ?_
      (try simp only [PT])
      refine list_end ?_
      refine then_norm ?_
      refine wp_seq ?_
      refine wp_cond_split rfl (fun hc => ?_) (fun hc => ?_)
      · subst hc
        simp only [if_true] at H
        refine wp_skip ?_
        refine then_norm ?_
        obtain ⟨key, val, born⟩ := e
        obtain ⟨hin, hnew⟩ := hb1 rfl
        obtain ⟨k0, A0, xs0, c0, ek, hk0, hf0, ev, hS0⟩ := KO_ent hmm1 hum1 hokm1 hlm1 hem1 hslm1 hin
        subst ek; subst ev
        refine wp_block ?_
        refine wp_seq ?_
        refine wp_region_lit ?_
        refine OpG.list rfl ?_; refine G_entryS 0 _ rfl rfl H rfl hrm1 hwfm1 hin ?_
        (try simp only [PT])
        apply seq_op (V := .string k0) rfl
        · exact fun _ h => O_ext rfl rfl rfl h
        (try simp only [PT])
        apply seq_op (V := .slice A0 xs0.length c0) rfl
        · exact fun _ h => O_ext rfl rfl rfl h
        (try simp only [PT])
        apply seq_op (V := .string k0) rfl
        · exact fun _ h => O_as rfl rfl h
        (try simp only [PT])
        apply seq_op (V := .slice A0 xs0.length c0) rfl
        · exact fun _ h => O_as rfl rfl h
        (try simp only [PT])
        refine list_end ?_
        refine then_norm ?_
        refine wp_seq ?_
        refine wp_region_lit ?_
        apply seq_op (V := .slice A0 xs0.length c0) rfl
        · exact fun _ h => O_mv rfl rfl h
        (try simp only [PT])
        apply seq_op (V := .int .i64 (xs0.length : Int)) rfl
        · exact fun _ h => O_len rfl Tryd.underlying27 rfl h
        (try simp only [PT])
        refine OpG.list rfl ?_; refine G_make (d := kI.sh s) ⟨kI_at.ht, kI_at.bypos, kI_at.hi⟩ _ _ rfl xs0.length rfl rfl (0 : Int) kI_zero (len_by hS0) H ?_; clear H; intro v1 w1 H; obtain ⟨Av1, cv1, hv, -⟩ := H.len; rw [List.length_replicate] at hv; subst hv
        (try simp only [PT])
        apply seq_op (V := .slice Av1 xs0.length cv1) rfl
        · exact fun _ h => O_as rfl rfl h
        (try simp only [PT])
        refine list_end ?_
        refine then_norm ?_
        refine wp_seq ?_
        refine wp_region_lit ?_
        apply seq_op (V := .slice Av1 xs0.length cv1) rfl
        · exact fun _ h => O_mv rfl rfl h
        (try simp only [PT])
        apply seq_op (V := .slice A0 xs0.length c0) rfl
        · exact fun _ h => O_mv rfl rfl h
        (try simp only [PT])
        refine OpG.list rfl ?_; refine G_copyO rfl kI_at _ _ rfl H hS0 rfl rfl (by simp) ?_; clear H; intro w1 H
        (try simp only [PT])
        refine list_end ?_
        refine then_norm ?_
        refine wp_region_lit ?_
        apply seq_op (V := .pointer (some ⟨b21, 0, none⟩)) rfl
        · exact fun _ h => O_mv rfl rfl h
        (try simp only [PT])
        apply seq_op (V := .pointer (some ⟨b21, 0, none⟩)) rfl
        · exact fun _ h => O_nil rfl rfl h
        (try simp only [PT])
        apply seq_op (V := .pointer (some ⟨b21, 0, none⟩)) rfl
        · exact fun _ h => O_fld rfl Tryd.underlying91 rfl (Tryd.sizeOf88 _) rfl h
        (try simp only [PT])
        apply seq_op (V := .map (some r14)) rfl
        · exact fun _ h => L_1 2 _ _ rfl (Tryd.isAgg88 _) rfl H rfl rfl h
        (try simp only [PT])
        apply seq_op (V := .string k0) rfl
        · exact fun _ h => O_mv rfl rfl h
        (try simp only [PT])
        apply seq_op (V := .slice Av1 xs0.length cv1) rfl
        · exact fun _ h => O_mv rfl rfl h
        (try simp only [PT])
        refine OpG.list rfl ?_; refine O_put mk_S 3 88 _ _ _ rfl Tryd.underlying88 (k := k0) hk0 rfl rfl rfl H rfl ?_; clear H; intro w1 H; simp only [List.set_cons_succ, List.set_cons_zero] at H
        (try simp only [PT])
        refine list_end ?_
        refine block_norm ?_
        refine then_norm ?_
        have hle := nodup_le (a := (done ++ [(⟨kcS.enc k0, .slice A0 xs0.length c0, born⟩ : MapEntry)]).map (fun e : MapEntry => e.born)) (b := esm1.toList.map (fun e : MapEntry => e.born)) (by rw [List.map_append, List.nodup_append]; exact ⟨hnd, by simp, fun x hx y hy e => hnew (by rw [hseen]; simp only [List.map_cons, List.map_nil, List.mem_singleton] at hy; rw [← hy, ← e]; exact hx)⟩) (fun x hx => by obtain ⟨e, he, rfl⟩ := List.mem_map.1 hx; rcases List.mem_append.1 he with h | h; exact List.mem_map.2 ⟨e, hd e h, rfl⟩; rw [List.mem_singleton.1 h]; exact List.mem_map.2 ⟨_, hin, rfl⟩)
        simp only [List.length_map, List.length_append, List.length_cons, List.length_nil, Array.length_toList] at hle
        refine ⟨⟨⟨rfl, rfl, rfl, rfl, rfl, rfl, rfl, rfl, rfl, rfl, rfl, rfl, rfl, rfl, rfl, rfl, rfl, rfl, rfl, rfl, rfl, rfl, rfl, rfl, rfl, rfl⟩, rfl⟩, esm1.size - (done.length + 1), by omega, seen.push born, done ++ [⟨kcS.enc k0, .slice A0 xs0.length c0, born⟩], fset g k0 xs0, by simp, by simp [hseen], ?_, ?_, ?_, ?_, H⟩
        · intro e he; rcases List.mem_append.1 he with h | h; exact hd e h; rw [List.mem_singleton.1 h]; exact hin
        · rw [List.map_append, List.nodup_append]; exact ⟨hnd, by simp, fun x hx y hy e => hnew (by rw [hseen]; simp only [List.map_cons, List.map_nil, List.mem_singleton] at hy; rw [← hy, ← e]; exact hx)⟩
        · intro k hk; unfold fset; by_cases e1 : k = k0
          · rw [if_pos e1, e1, hf0]
          · rw [if_neg e1]; refine hg1 k ?_; obtain ⟨e, he, e2⟩ := hk; rcases List.mem_append.1 he with h | h; exact ⟨e, h, e2⟩; rw [List.mem_singleton.1 h] at e2; exact absurd (Value.string.inj e2).symm e1
        · intro k hk; unfold fset; rw [if_neg (fun e1 => hk ⟨_, List.mem_append.2 (.inr (List.mem_singleton.2 rfl)), by rw [e1]⟩)]; exact hg2 k fun ⟨e, he, e2⟩ => hk ⟨e, List.mem_append.2 (.inl he), e2⟩
      · subst hc
        simp only [Bool.false_eq_true, if_false] at H
        have hall := hb2 rfl
        obtain rfl : g = a0.lists := by
          funext k
          cases hk : a0.lists k with
          | none => exact Classical.byContradiction fun hh => hh (Classical.byCases (fun x => (hg1 k x).trans hk) (fun x => hg2 k x))
          | some xs => obtain ⟨e1, h1, h2⟩ := KO_all hmm1 hlm1 hem1 hk; have h3 := hall e1 h1; rw [hseen] at h3; obtain ⟨e2, h4, h5⟩ := List.mem_map.1 h3; rw [← hk]; exact hg1 k ⟨e2, h4, by rw [born_inj hwfm1.1 (hd e2 h4) h1 h5]; exact h2⟩
        refine wp_exit ?_
        refine then_exit ?_
        refine then_exit ?_
        replace H := H.dropAt 0 rfl; simp only [List.eraseIdx_cons_succ, List.eraseIdx_cons_zero] at H
        refine block_exit ?_
        refine then_norm ?_
        refine wp_seq ?_
        refine wp_region_lit ?_
        apply seq_op (V := .pointer (some ⟨b21, 0, none⟩)) rfl
        · exact fun _ h => O_mv rfl rfl h
        (try simp only [PT])
        apply seq_op (V := .pointer (some ⟨b21, 0, none⟩)) rfl
        · exact fun _ h => O_as rfl rfl h
        (try simp only [PT])
        refine list_end ?_
        refine then_norm ?_
        refine wp_ret ?_
        subst hm
        replace H := H.front 1 rfl; simp only [List.eraseIdx_cons_succ, List.eraseIdx_cons_zero] at H
        replace H := H.front 2 rfl; simp only [List.eraseIdx_cons_succ, List.eraseIdx_cons_zero] at H
        replace H := H.front 2 rfl; simp only [List.eraseIdx_cons_succ, List.eraseIdx_cons_zero] at H
        exact ret1 rfl (rv_tmp rfl) rfl ⟨b21, r14, rr190010, rfl, H⟩
def model_State_does_f (a0 : MSt) : Unit := ()

set_option maxHeartbeats 4000000 in
theorem model_State_does_w {E : World} {s : SH} {L : List HP} {w : World} {a0 : MSt} {r_p0_lists : Nat} (h_p0_lists : MapKO kcS kI s r_p0_lists a0.lists) {r_p0_regs : Nat} (h_p0_regs : MapKF kcS vcI s r_p0_regs a0.regs) {b_p0 o_p0 : Nat} (hC_p0 : Cells s ⟨b_p0, o_p0, none⟩ [.map (some r_p0_lists), .map (some r_p0_regs)]) (H : Holds E s (L) w) :
    Calls Tryd.prog 95 #[.pointer (some ⟨b_p0, o_p0, none⟩)] w fun e w' => e = .returned (.agg #[.func (.func 136) #[] #[], .func (.func 137) #[.pointer (some ⟨b_p0, o_p0, none⟩)] #[], .func (.func 136) #[] #[], .func (.func 138) #[.pointer (some ⟨b_p0, o_p0, none⟩)] #[], .func (.func 136) #[] #[]]) ∧ Holds E s (L) w' := by
  obtain ⟨R, hm⟩ : ∃ R, model_State_does_f a0 = R := ⟨_, rfl⟩
  (try rw [hm])
  unfold model_State_does_f at hm
  go_enter Tryd.func95, Tryd.ntmps95
  refine wp_seq ?_
  refine wp_region_lit ?_
  refine OpG.list rfl ?_; refine G_alloc 162 rfl (Tryd.zeroValue162 _) H ?_; clear H; intro b2 w1 H; (try simp only [Value.cells] at H)
  (try simp only [PT])
  refine list_end ?_
  refine then_norm ?_
  refine wp_seq ?_
  refine wp_region_lit ?_
  apply seq_op (V := .func (.func 136) #[] #[]) rfl
  · exact fun _ h => O_as rfl rfl h
  (try simp only [PT])
  refine list_end ?_
  refine then_norm ?_
  refine wp_seq ?_
  refine wp_region_lit ?_
  apply seq_op (V := .func (.func 136) #[] #[]) rfl
  · exact fun _ h => O_mv rfl rfl h
  (try simp only [PT])
  apply seq_op (V := .pointer (some ⟨b_p0, o_p0, none⟩)) rfl
  · exact fun _ h => O_mv rfl rfl h
  (try simp only [PT])
  apply seq_op (V := .func (.func 137) #[.pointer (some ⟨b_p0, o_p0, none⟩)] #[]) rfl
  · intro Φ hΦ; refine O_mkfb (vb := #[.pointer (some ⟨b_p0, o_p0, none⟩)]) (vs := #[]) rfl (by (simp only [List.map_toArray, List.map_cons, List.map_nil]) <;> rfl) (by (simp only [List.map_toArray, List.map_cons, List.map_nil]) <;> rfl) ?_; exact hΦ
  (try simp only [PT])
  apply seq_op (V := .func (.func 136) #[] #[]) rfl
  · exact fun _ h => O_mv rfl rfl h
  (try simp only [PT])
  apply seq_op (V := .pointer (some ⟨b_p0, o_p0, none⟩)) rfl
  · exact fun _ h => O_mv rfl rfl h
  (try simp only [PT])
  apply seq_op (V := .func (.func 138) #[.pointer (some ⟨b_p0, o_p0, none⟩)] #[]) rfl
  · intro Φ hΦ; refine O_mkfb (vb := #[.pointer (some ⟨b_p0, o_p0, none⟩)]) (vs := #[]) rfl (by (simp only [List.map_toArray, List.map_cons, List.map_nil]) <;> rfl) (by (simp only [List.map_toArray, List.map_cons, List.map_nil]) <;> rfl) ?_; exact hΦ
  (try simp only [PT])
  apply seq_op (V := .func (.func 136) #[] #[]) rfl
  · exact fun _ h => O_mv rfl rfl h
  (try simp only [PT])
  apply seq_op (V := .agg #[.func (.func 136) #[] #[], .func (.func 137) #[.pointer (some ⟨b_p0, o_p0, none⟩)] #[], .func (.func 136) #[] #[], .func (.func 138) #[.pointer (some ⟨b_p0, o_p0, none⟩)] #[], .func (.func 136) #[] #[]]) rfl
  · exact fun _ h => O_bld (cs := [.func (.func 136) #[] #[], .func (.func 137) #[.pointer (some ⟨b_p0, o_p0, none⟩)] #[], .func (.func 136) #[] #[], .func (.func 138) #[.pointer (some ⟨b_p0, o_p0, none⟩)] #[], .func (.func 136) #[] #[]]) rfl (by kernel_rfl) h
  (try simp only [PT])
  refine OpG.list rfl ?_; refine G_setNi 0 (c := [.func (.func 136) #[] #[], .func (.func 137) #[.pointer (some ⟨b_p0, o_p0, none⟩)] #[], .func (.func 136) #[] #[], .func (.func 138) #[.pointer (some ⟨b_p0, o_p0, none⟩)] #[], .func (.func 136) #[] #[]]) _ _ _ rfl (Tryd.sizeOf162 _) rfl rfl (by simp [Value.oneCell']) H rfl rfl ?_; clear H; intro w1 H; simp only [List.set_cons_succ, List.set_cons_zero] at H
  (try simp only [PT])
  refine list_end ?_
  refine then_norm ?_
  refine wp_ret ?_
  subst hm
  have Hc := H
  replace H := H.dropAt 0 rfl; simp only [List.eraseIdx_cons_succ, List.eraseIdx_cons_zero] at H
  exact ret1 rfl (rv_cellN 0 Hc rfl rfl (Tryd.isAgg162 _) (Tryd.sizeOf162 _)) rfl ⟨rfl, H⟩
def slices_Equal_I_l4 (a1 : List Int) : Nat → List Int → Option ((Bool ⊕ Unit))
  | k4, []  => some (.inr ())
  | k4, x4 :: r4 => (rdI a1 (k4 : Int)).bind fun u1 => if (x4 != u1) = true then (some (.inl false)) else (slices_Equal_I_l4 a1 (k4 + 1) r4)

def slices_Equal_I_f (a0 : List Int) (a1 : List Int) : Option Bool := if ((a0.length : Int) != (a1.length : Int)) = true then (some false) else ((slices_Equal_I_l4 a1 0 a0).bind fun | .inl z4_r => (some z4_r) | .inr () => (some true))

set_option maxHeartbeats 4000000 in
theorem slices_Equal_I_w {E : World} {s : SH} {L : List HP} {w : World} {a0 : List Int} {a1 : List Int} {A_p0 : Option Addr} {c_p0 : Nat} (h_p0 : kI.Sl s (.slice A_p0 a0.length c_p0) a0) {A_p1 : Option Addr} {c_p1 : Nat} (h_p1 : kI.Sl s (.slice A_p1 a1.length c_p1) a1) {R : Bool} (hm : slices_Equal_I_f a0 a1 = some R) (H : Holds E s (L) w) :
    Calls Tryd.prog 23 #[.slice A_p0 a0.length c_p0, .slice A_p1 a1.length c_p1] w fun e w' => e = .returned (.bool R) ∧ Holds E s (L) w' := by
  unfold slices_Equal_I_f at hm
  go_enter Tryd.func23, Tryd.ntmps23
  refine wp_seq ?_
  refine wp_region_lit ?_
  apply seq_op (V := .bool false) rfl
  · exact fun _ h => O_as rfl rfl h
  (try simp only [PT])
  refine list_end ?_
  refine then_norm ?_
  refine wp_seq ?_
  refine wp_seq ?_
  refine wp_region_lit ?_
  apply seq_op (V := .slice A_p0 a0.length c_p0) rfl
  · exact fun _ h => O_mv rfl rfl h
  (try simp only [PT])
  apply seq_op (V := .int .i64 (a0.length : Int)) rfl
  · exact fun _ h => O_len rfl Tryd.underlying27 rfl h
  (try simp only [PT])
  apply seq_op (V := .slice A_p1 a1.length c_p1) rfl
  · exact fun _ h => O_mv rfl rfl h
  (try simp only [PT])
  apply seq_op (V := .int .i64 (a1.length : Int)) rfl
  · exact fun _ h => O_len rfl Tryd.underlying27 rfl h
  (try simp only [PT])
  apply seq_op (V := .bool ((a0.length : Int) != (a1.length : Int))) rfl
  · exact fun _ h => O_bin rfl rfl rfl eqg_int r_neq h
  (try simp only [PT])
  refine list_end ?_
  refine then_norm ?_
  refine wp_cond_split rfl (fun hc => ?_) (fun hc => ?_)
  · have hc1 := hc
    clear hc
    replace hm := ifT hc1 hm
    refine wp_seq ?_
    refine wp_region_lit ?_
    apply seq_op (V := .bool false) rfl
    · exact fun _ h => O_as rfl rfl h
    (try simp only [PT])
    refine list_end ?_
    refine then_norm ?_
    refine wp_ret ?_
    refine then_ret ?_
    have hm := Option.some.inj hm
    subst hm
    exact ret1 rfl (rv_tmp rfl) rfl ⟨rfl, H⟩
  · have hc1 := hc
    clear hc
    replace hm := ifF hc1 hm
    refine wp_skip ?_
    refine then_norm ?_
    refine wp_seq ?_
    refine wp_seq ?_
    refine wp_region_lit ?_
    apply seq_op (V := .slice A_p0 a0.length c_p0) rfl
    · exact fun _ h => O_mv rfl rfl h
    (try simp only [PT])
    apply seq_op (V := .int .i64 (a0.length : Int)) rfl
    · exact fun _ h => O_len rfl Tryd.underlying27 rfl h
    (try simp only [PT])
    apply seq_op (V := .int .i64 0) rfl
    · exact fun _ h => O_mv rfl rfl h
    (try simp only [PT])
    refine list_end ?_
    refine then_norm ?_
    refine wp_block ?_
    obtain ⟨R4, hq4, hm⟩ := bs hm
    have hn4 := Nat.le_trans (len_le (d := kI) h_p0 (by decide)) (by decide : (140737488355328 : Nat) ≤ 9223372036854775807)
    refine wp_loopF [none, none, none, none, some 4, some 5, none, none, none, none, none, none, none, some 13, some 14, some 15, some 16, some 17, some 18, some 19, some 20, some 21, some 22, some 23, some 24, some 25] rfl (by simp) (fun f w => ∃ (k4 : Nat) (r4 : List Int), a0.drop k4 = r4 ∧ f 13 = .int .i64 (k4 : Int) ∧ slices_Equal_I_l4 a1 k4 r4 = some R4 ∧ Holds E s (L) w) (fun f w => a0.length - (intOf (f 13)).toNat) ?_ ?_
    · exact ⟨0, a0, rfl, rfl, hq4, H⟩
    · clear H
      intro f w hI
      obtain ⟨k4, r4, hd4, hf13, hq4', H⟩ := hI
      clear hq4; have hq4 := hq4'; clear hq4'
      simp only [ovm, mixM]
      simp only [hf13]; clear hf13
      refine wp_seq ?_
      refine wp_region_lit ?_
      apply seq_op (V := .bool (decide ((k4 : Int) < (a0.length : Int)))) rfl
      · exact fun _ h => O_bin rfl rfl rfl eqg_int r_lss h
      (try simp only [PT])
      refine list_end ?_
      refine then_norm ?_
      refine wp_seq ?_
      refine wp_cond_split rfl (fun hc => ?_) (fun hc => ?_)
      · have hc2 := hc
        clear hc
        obtain ⟨x4, r4', rfl, hd4', hd4'', hl4⟩ := rng_t hd4 hc2
        rw [slices_Equal_I_l4] at hq4
        refine wp_skip ?_
        refine then_norm ?_
        refine wp_seq ?_
        refine wp_block ?_
        refine wp_seq ?_
        refine wp_region_lit ?_
        apply seq_op (V := .int .i64 (k4 : Int)) rfl
        · exact fun _ h => O_mv rfl rfl h
        (try simp only [PT])
        apply seq_op (V := .int .i64 (k4 : Int)) rfl
        · exact fun _ h => O_as rfl rfl h
        (try simp only [PT])
        refine list_end ?_
        refine then_norm ?_
        refine wp_seq ?_
        obtain ⟨be1, oe1, rfl, hCe1, h0e1⟩ := kI_el h_p0 hd4'
        obtain ⟨u1, gx1, hq4⟩ := bs hq4
        obtain ⟨kk1, gk1, gl1, gd1⟩ := rdI_some gx1
        obtain ⟨be2, oe2, rfl, hCe2, h0e2⟩ := kI_el h_p1 gd1
        refine wp_draw_obO (k := 9) (sz := 26) (List.replicate 9 9) (fun _ => []) mixed (by simp) rfl (by kernel_rfl) (by kernel_rfl) (by kernel_rfl) H (by simp only [List.take_succ_cons, List.take_zero]; exact rfl) (by simp only [List.drop_succ_cons, List.drop_zero]; exact rfl)
          (fun y => by simp only [ov, Act.put, List.setIfInBounds_toArray, List.set_cons_succ, List.set_cons_zero, Nat.zero_add, Nat.reduceAdd]; exact rfl) ?_
        apply ObO.valw (V := .slice (some ⟨be1, oe1, none⟩) a0.length c_p0)
        · intro x; rfl
        · intro s' w' y Φ R hs H hG hΦ; refine wantG rfl ?_; refine O_mv rfl rfl ?_; exact hΦ _ _ (Sub.refl _) H
        apply ObO.valw (V := .int .i64 (k4 : Int))
        · intro x; rfl
        · intro s' w' y Φ R hs H hG hΦ; refine wantG rfl ?_; refine O_mv rfl rfl ?_; exact hΦ _ _ (Sub.refl _) H
        apply ObO.valw (V := .pointer (some ⟨be1, oe1 + k4 * 1, none⟩))
        · intro x; rfl
        · intro s' w' y Φ R hs H hG hΦ; simp only [List.nil_append, List.cons_append] at hG; have e0 : y 0 = _ := dh_get hG 0 rfl (by kernel_rfl); have e1 : y 1 = _ := dh_get hG 1 rfl (by kernel_rfl); simp only [e0, e1]; refine wantG rfl ?_; refine O_ix rfl Tryd.underlying27 (Tryd.sizeOf3 _) rfl rfl rfl hl4 ?_; exact hΦ _ _ (Sub.refl _) H
        apply ObO.valw (V := .int .i64 x4)
        · intro x; rfl
        · intro s' w' y Φ R hs H hG hΦ; simp only [List.nil_append, List.cons_append] at hG; have e2 : y 2 = _ := dh_get hG 2 rfl (by kernel_rfl); simp only [e2]; refine wantG rfl ?_; refine G_s1 _ _ rfl (Tryd.isAgg3 _) rfl H (hCe1.mono hs) 0 rfl rfl ?_; exact hΦ _ _ (Sub.refl _) H
        apply ObO.valw (V := .slice (some ⟨be2, oe2, none⟩) a1.length c_p1)
        · intro x; rfl
        · intro s' w' y Φ R hs H hG hΦ; refine wantG rfl ?_; refine O_mv rfl rfl ?_; exact hΦ _ _ (Sub.refl _) H
        apply ObO.valw (V := .int .i64 (k4 : Int))
        · intro x; rfl
        · intro s' w' y Φ R hs H hG hΦ; refine wantG rfl ?_; refine O_mv rfl rfl ?_; exact hΦ _ _ (Sub.refl _) H
        apply ObO.valw (V := .pointer (some ⟨be2, oe2 + kk1 * 1, none⟩))
        · intro x; rfl
        · intro s' w' y Φ R hs H hG hΦ; simp only [List.nil_append, List.cons_append] at hG; have e4 : y 4 = _ := dh_get hG 4 rfl (by kernel_rfl); have e5 : y 5 = _ := dh_get hG 5 rfl (by kernel_rfl); simp only [e4, e5]; refine wantG rfl ?_; refine O_ix rfl Tryd.underlying27 (Tryd.sizeOf3 _) rfl rfl gk1 gl1 ?_; exact hΦ _ _ (Sub.refl _) H
        apply ObO.valw (V := .int .i64 u1)
        · intro x; rfl
        · intro s' w' y Φ R hs H hG hΦ; simp only [List.nil_append, List.cons_append] at hG; have e6 : y 6 = _ := dh_get hG 6 rfl (by kernel_rfl); simp only [e6]; refine wantG rfl ?_; refine G_s1 _ _ rfl (Tryd.isAgg3 _) rfl H (hCe2.mono hs) 0 rfl rfl ?_; exact hΦ _ _ (Sub.refl _) H
        apply ObO.valw (V := .bool (x4 != u1))
        · intro x; rfl
        · intro s' w' y Φ R hs H hG hΦ; simp only [List.nil_append, List.cons_append] at hG; have e3 : y 3 = _ := dh_get hG 3 rfl (by kernel_rfl); have e7 : y 7 = _ := dh_get hG 7 rfl (by kernel_rfl); simp only [e3, e7]; refine wantG rfl ?_; refine O_bin rfl rfl rfl eqg_int r_neq ?_; exact hΦ _ _ (Sub.refl _) H
        clear H
        intro s3 w3 yy hs3 H hG
        replace H := (show Holds _ _ ([] ++ _) _ from H); rw [List.nil_append] at H
        simp only [List.nil_append, List.cons_append] at hG
        have e0 : yy 0 = _ := gh_get hG 0 rfl
        have e1 : yy 1 = _ := gh_get hG 1 rfl
        have e2 : yy 2 = _ := gh_get hG 2 rfl
        have e3 : yy 3 = _ := gh_get hG 3 rfl
        have e4 : yy 4 = _ := gh_get hG 4 rfl
        have e5 : yy 5 = _ := gh_get hG 5 rfl
        have e6 : yy 6 = _ := gh_get hG 6 rfl
        have e7 : yy 7 = _ := gh_get hG 7 rfl
        have e8 : yy 8 = _ := gh_get hG 8 rfl
        simp only [e0, e1, e2, e3, e4, e5, e6, e7, e8]
        clear hG e0 e1 e2 e3 e4 e5 e6 e7 e8
        replace H := H.forget hs3; clear hs3
        refine list_end ?_
        refine then_norm ?_
        refine wp_cond_split rfl (fun hc => ?_) (fun hc => ?_)
        · have hc3 := hc
          clear hc
          replace hq4 := ifT hc3 hq4
          refine wp_seq ?_
          refine wp_region_lit ?_
          apply seq_op (V := .bool false) rfl
          · exact fun _ h => O_as rfl rfl h
          (try simp only [PT])
          refine list_end ?_
          refine then_norm ?_
          refine wp_ret ?_
          refine block_ret ?_
          refine then_ret ?_
          refine then_ret ?_
          refine block_ret ?_
          refine then_ret ?_
          have hq4 := Option.some.inj hq4
          subst hq4
          (try dsimp only at hm)
          have hm := Option.some.inj hm
          subst hm
          exact ret1 rfl (rv_tmp rfl) rfl ⟨rfl, H⟩
        · have hc3 := hc
          clear hc
          replace hq4 := ifF hc3 hq4
          refine wp_skip ?_
          refine block_norm ?_
          refine then_norm ?_
          refine wp_region_lit ?_
          apply seq_op (V := .int .i64 (IntKind.i64.wrap ((k4 : Int) + 1))) rfl
          · exact fun _ h => O_bin rfl rfl rfl eqg_int r_add h
          (try simp only [PT])
          apply seq_op (V := .int .i64 (IntKind.i64.wrap ((k4 : Int) + 1))) rfl
          · exact fun _ h => O_mv rfl rfl h
          (try simp only [PT])
          refine list_end ?_
          refine then_norm ?_
          refine ⟨⟨⟨rfl, rfl, rfl, rfl, rfl, rfl, rfl, rfl, rfl, rfl, rfl, rfl⟩, rfl⟩, ⟨k4 + 1, _, hd4'', wrap_succ hl4 hn4, hq4, H⟩, ?_⟩
          exact meas_succ hl4 hn4
      · have hc2 := hc
        clear hc
        obtain rfl := rng_f hd4 hc2
        rw [slices_Equal_I_l4] at hq4
        refine wp_exit ?_
        refine then_exit ?_
        refine then_exit ?_
        have hq4 := Option.some.inj hq4
        subst hq4
        (try dsimp only at hm)
        refine block_exit ?_
        refine then_norm ?_
        refine wp_seq ?_
        refine wp_region_lit ?_
        apply seq_op (V := .bool true) rfl
        · exact fun _ h => O_as rfl rfl h
        (try simp only [PT])
        refine list_end ?_
        refine then_norm ?_
        refine wp_ret ?_
        have hm := Option.some.inj hm
        subst hm
        exact ret1 rfl (rv_tmp rfl) rfl ⟨rfl, H⟩
def model_State_right_f (a0 : MSt) (a1 : Op') : Option Bool := if ((a1.kind == 2) && a1.has) = true then ((slices_Equal_I_f a1.list ((a0.lists a1.key).getD [])).bind fun u1 => some u1) else (if ((a1.kind == 4) && a1.has) = true then (some ((!(((a0.regs a1.key).isSome) == a1.isNil)) && (a1.isNil || (((a0.regs a1.key).getD 0) == a1.value)))) else (some true))

set_option maxHeartbeats 4000000 in
theorem model_State_right_w {E : World} {s : SH} {L : List HP} {w : World} {a0 : MSt} {a1 : Op'} {r_p0_lists : Nat} (h_p0_lists : MapKO kcS kI s r_p0_lists a0.lists) {r_p0_regs : Nat} (h_p0_regs : MapKF kcS vcI s r_p0_regs a0.regs) {b_p0 o_p0 : Nat} (hC_p0 : Cells s ⟨b_p0, o_p0, none⟩ [.map (some r_p0_lists), .map (some r_p0_regs)]) {A_p1_list : Option Addr} {c_p1_list : Nat} (h_p1_list : kI.Sl s (.slice A_p1_list a1.list.length c_p1_list) a1.list) (hz_p1_key : a1.key.size ≤ 140737488351232) {R : Bool} (hm : model_State_right_f a0 a1 = some R) (H : Holds E s (L) w) :
    Calls Tryd.prog 94 #[.pointer (some ⟨b_p0, o_p0, none⟩), .agg #[.int .i64 a1.kind, .string a1.key, .int .i64 a1.value, .slice A_p1_list a1.list.length c_p1_list, .bool a1.has, .bool a1.isNil]] w fun e w' => e = .returned (.bool R) ∧ Holds E s (L) w' := by
  unfold model_State_right_f at hm
  go_enter Tryd.func94, Tryd.ntmps94
  refine wp_seq ?_
  refine wp_region_lit ?_
  refine OpG.list rfl ?_; refine B_x 108 _ rfl (v := .agg #[.int .i64 a1.kind, .string a1.key, .int .i64 a1.value, .slice A_p1_list a1.list.length c_p1_list, .bool a1.has, .bool a1.isNil]) rfl H ?_; clear H; intro b3 w1 H; (try simp only [Value.cells] at H)
  (try simp only [PT])
  apply seq_op (V := .bool false) rfl
  · exact fun _ h => O_as rfl rfl h
  (try simp only [PT])
  refine list_end ?_
  refine then_norm ?_
  refine wp_seq ?_
  refine wp_draw_obO (k := 11) (sz := 57) (List.replicate 11 11) (fun _ => []) mixed (by simp) rfl (by kernel_rfl) (by kernel_rfl) (by kernel_rfl) H (by simp only [List.take_succ_cons, List.take_zero]; exact rfl) (by simp only [List.drop_succ_cons, List.drop_zero]; exact rfl)
    (fun y => by simp only [ov, Act.put, List.setIfInBounds_toArray, List.set_cons_succ, List.set_cons_zero, Nat.zero_add, Nat.reduceAdd]; exact rfl) ?_
  apply ObO.valw (V := .pointer (some ⟨b_p0, o_p0, none⟩))
  · intro x; rfl
  · intro s' w' y Φ R hs H hG hΦ; refine wantG rfl ?_; refine O_mv rfl rfl ?_; exact hΦ _ _ (Sub.refl _) H
  apply ObO.valw (V := .pointer (some ⟨b_p0, o_p0, none⟩))
  · intro x; rfl
  · intro s' w' y Φ R hs H hG hΦ; simp only [List.nil_append, List.cons_append] at hG; have e0 : y 0 = _ := dh_get hG 0 rfl (by kernel_rfl); simp only [e0]; refine wantG rfl ?_; refine O_nil rfl rfl ?_; exact hΦ _ _ (Sub.refl _) H
  apply ObO.valw (V := .pointer (some ⟨b_p0, o_p0 + 1, none⟩))
  · intro x; rfl
  · intro s' w' y Φ R hs H hG hΦ; simp only [List.nil_append, List.cons_append] at hG; have e1 : y 1 = _ := dh_get hG 1 rfl (by kernel_rfl); simp only [e1]; refine wantG rfl ?_; refine O_fld rfl Tryd.underlying91 rfl (Tryd.sizeOf89 _) rfl ?_; exact hΦ _ _ (Sub.refl _) H
  apply ObO.valw (V := .map (some r_p0_regs))
  · intro x; rfl
  · intro s' w' y Φ R hs H hG hΦ; simp only [List.nil_append, List.cons_append] at hG; have e2 : y 2 = _ := dh_get hG 2 rfl (by kernel_rfl); simp only [e2]; refine wantG rfl ?_; refine G_s1 _ _ rfl (Tryd.isAgg89 _) rfl H (hC_p0.mono hs) 1 rfl rfl ?_; exact hΦ _ _ (Sub.refl _) H
  apply ObO.valw (V := .pointer (some ⟨b3, 1, none⟩))
  · intro x; rfl
  · intro s' w' y Φ R hs H hG hΦ; refine wantG rfl ?_; refine O_fld rfl Tryd.underlying108 rfl (Tryd.sizeOf9 _) rfl ?_; exact hΦ _ _ (Sub.refl _) H
  apply ObO.valw (V := .string a1.key)
  · intro x; rfl
  · intro s' w' y Φ R hs H hG hΦ; simp only [List.nil_append, List.cons_append] at hG; have e4 : y 4 = _ := dh_get hG 4 rfl (by kernel_rfl); simp only [e4]; refine wantG rfl ?_; refine L_1 0 _ _ rfl (Tryd.isAgg9 _) rfl H rfl rfl ?_; exact hΦ _ _ (Sub.refl _) H
  apply ObO.valw (V := .tuple #[.int .i64 ((a0.regs a1.key).getD 0), .bool ((a0.regs a1.key).isSome)])
  · intro x; rfl
  · intro s' w' y Φ R hs H hG hΦ; simp only [List.nil_append, List.cons_append] at hG; have e3 : y 3 = _ := dh_get hG 3 rfl (by kernel_rfl); have e5 : y 5 = _ := dh_get hG 5 rfl (by kernel_rfl); simp only [e3, e5]; refine wantG rfl ?_; refine FS_get2 mk_S 89 _ _ rfl Tryd.underlying89 (k := a1.key) (Nat.le_trans hz_p1_key (by decide)) (h_p0_regs.mono hs) rfl rfl H (Tryd.zeroValue3 _) ?_; exact hΦ _ _ (Sub.refl _) H
  apply ObO.valw (V := .tuple #[.int .i64 ((a0.regs a1.key).getD 0), .bool ((a0.regs a1.key).isSome)])
  · intro x; rfl
  · intro s' w' y Φ R hs H hG hΦ; simp only [List.nil_append, List.cons_append] at hG; have e6 : y 6 = _ := dh_get hG 6 rfl (by kernel_rfl); simp only [e6]; refine wantG rfl ?_; refine O_mv rfl rfl ?_; exact hΦ _ _ (Sub.refl _) H
  apply ObO.valw (V := .int .i64 ((a0.regs a1.key).getD 0))
  · intro x; rfl
  · intro s' w' y Φ R hs H hG hΦ; simp only [List.nil_append, List.cons_append] at hG; have e7 : y 7 = _ := dh_get hG 7 rfl (by kernel_rfl); simp only [e7]; refine wantG rfl ?_; refine O_ext rfl rfl rfl ?_; exact hΦ _ _ (Sub.refl _) H
  apply ObO.valw (V := .bool ((a0.regs a1.key).isSome))
  · intro x; rfl
  · intro s' w' y Φ R hs H hG hΦ; simp only [List.nil_append, List.cons_append] at hG; have e7 : y 7 = _ := dh_get hG 7 rfl (by kernel_rfl); simp only [e7]; refine wantG rfl ?_; refine O_ext rfl rfl rfl ?_; exact hΦ _ _ (Sub.refl _) H
  apply ObO.valw (V := .int .i64 ((a0.regs a1.key).getD 0))
  · intro x; rfl
  · intro s' w' y Φ R hs H hG hΦ; simp only [List.nil_append, List.cons_append] at hG; have e8 : y 8 = _ := dh_get hG 8 rfl (by kernel_rfl); simp only [e8]; refine wantG rfl ?_; refine O_as rfl rfl ?_; exact hΦ _ _ (Sub.refl _) H
  clear H
  intro s3 w3 yy hs3 H hG
  replace H := (show Holds _ _ ([] ++ _) _ from H); rw [List.nil_append] at H
  simp only [List.nil_append, List.cons_append] at hG
  have e0 : yy 0 = _ := gh_get hG 0 rfl
  have e1 : yy 1 = _ := gh_get hG 1 rfl
  have e2 : yy 2 = _ := gh_get hG 2 rfl
  have e3 : yy 3 = _ := gh_get hG 3 rfl
  have e4 : yy 4 = _ := gh_get hG 4 rfl
  have e5 : yy 5 = _ := gh_get hG 5 rfl
  have e6 : yy 6 = _ := gh_get hG 6 rfl
  have e7 : yy 7 = _ := gh_get hG 7 rfl
  have e8 : yy 8 = _ := gh_get hG 8 rfl
  have e9 : yy 9 = _ := gh_get hG 9 rfl
  have e10 : yy 10 = _ := gh_get hG 10 rfl
  simp only [e0, e1, e2, e3, e4, e5, e6, e7, e8, e9, e10]
  clear hG e0 e1 e2 e3 e4 e5 e6 e7 e8 e9 e10
  replace H := H.forget hs3; clear hs3
  apply seq_op (V := .bool ((a0.regs a1.key).isSome)) rfl
  · exact fun _ h => O_as rfl rfl h
  (try simp only [PT])
  refine list_end ?_
  refine then_norm ?_
  refine wp_seq ?_
  refine wp_block ?_
  refine wp_seq ?_
  refine wp_region_lit ?_
  apply seq_op (V := .pointer (some ⟨b3, 0, none⟩)) rfl
  · exact fun _ h => O_fld rfl Tryd.underlying108 rfl (Tryd.sizeOf3 _) rfl h
  (try simp only [PT])
  apply seq_op (V := .int .i64 a1.kind) rfl
  · exact fun _ h => L_1 0 _ _ rfl (Tryd.isAgg3 _) rfl H rfl rfl h
  (try simp only [PT])
  apply seq_op (V := .bool (a1.kind == 2)) rfl
  · exact fun _ h => O_bin rfl rfl rfl eqg_int r_eql h
  (try simp only [PT])
  apply seq_op (V := .bool (a1.kind == 2)) rfl
  · exact fun _ h => O_mv rfl rfl h
  (try simp only [PT])
  refine seq_opg (c := (a1.kind == 2)) (V := .pointer (some ⟨b3, 4, none⟩)) (by first | exact wanted_t rfl rfl rfl | exact wanted_vt rfl rfl rfl) ?_ ?_
  · intro hc Φ hΦ; refine O_fld rfl Tryd.underlying108 rfl (Tryd.sizeOf4 _) rfl ?_; exact hΦ
  (try simp only [PT])
  refine seq_opg (c := (a1.kind == 2)) (V := .bool a1.has) (by first | exact wanted_t rfl rfl rfl | exact wanted_vt rfl rfl rfl) ?_ ?_
  · intro hc Φ hΦ; (repeat (first | rw [vg_of hc] | rw [vg_of (and_l hc)] | rw [vg_of (and_l (and_l hc))] | rw [vg_of (and_l (and_l (and_l hc)))] | rw [vg_and hc])); refine L_1 0 _ _ rfl (Tryd.isAgg4 _) rfl H rfl rfl ?_; exact hΦ
  (try simp only [PT])
  apply seq_op (V := .bool ((a1.kind == 2) && a1.has)) rfl
  · exact fun _ h => G_and _ _ _ rfl rfl rfl rfl h
  (try simp only [PT])
  apply seq_op (V := .bool ((a1.kind == 2) && a1.has)) rfl
  · exact fun _ h => O_as rfl rfl h
  (try simp only [PT])
  refine list_end ?_
  refine then_norm ?_
  refine wp_cond_split rfl (fun hc => ?_) (fun hc => ?_)
  · have hc1 := hc
    clear hc
    replace hm := ifT hc1 hm
    refine wp_seq ?_
    obtain ⟨Aq1, cq1, hsq1, hlkq1⟩ := KO_get mk_S 88 Tryd.underlying88 (k := a1.key) (Nat.le_trans hz_p1_key (by decide)) h_p0_lists
    obtain ⟨u1, gx1, hm⟩ := bs hm
    refine wp_draw_obO (k := 10) (sz := 57) (List.replicate 10 10) (fun _ => []) mixed (by simp) rfl (by kernel_rfl) (by kernel_rfl) (by kernel_rfl) H (by simp only [List.take_succ_cons, List.take_zero]; exact rfl) (by simp only [List.drop_succ_cons, List.drop_zero]; exact rfl)
      (fun y => by simp only [ov, Act.put, List.setIfInBounds_toArray, List.set_cons_succ, List.set_cons_zero, Nat.zero_add, Nat.reduceAdd]; exact rfl) ?_
    apply ObO.valw (V := .pointer (some ⟨b3, 3, none⟩))
    · intro x; rfl
    · intro s' w' y Φ R hs H hG hΦ; refine wantG rfl ?_; refine O_fld rfl Tryd.underlying108 rfl (Tryd.sizeOf27 _) rfl ?_; exact hΦ _ _ (Sub.refl _) H
    apply ObO.valw (V := .slice A_p1_list a1.list.length c_p1_list)
    · intro x; rfl
    · intro s' w' y Φ R hs H hG hΦ; simp only [List.nil_append, List.cons_append] at hG; have e0 : y 0 = _ := dh_get hG 0 rfl (by kernel_rfl); simp only [e0]; refine wantG rfl ?_; refine L_1 0 _ _ rfl (Tryd.isAgg27 _) rfl H rfl rfl ?_; exact hΦ _ _ (Sub.refl _) H
    apply ObO.valw (V := .pointer (some ⟨b_p0, o_p0, none⟩))
    · intro x; rfl
    · intro s' w' y Φ R hs H hG hΦ; refine wantG rfl ?_; refine O_mv rfl rfl ?_; exact hΦ _ _ (Sub.refl _) H
    apply ObO.valw (V := .pointer (some ⟨b_p0, o_p0, none⟩))
    · intro x; rfl
    · intro s' w' y Φ R hs H hG hΦ; simp only [List.nil_append, List.cons_append] at hG; have e2 : y 2 = _ := dh_get hG 2 rfl (by kernel_rfl); simp only [e2]; refine wantG rfl ?_; refine O_nil rfl rfl ?_; exact hΦ _ _ (Sub.refl _) H
    apply ObO.valw (V := .pointer (some ⟨b_p0, o_p0, none⟩))
    · intro x; rfl
    · intro s' w' y Φ R hs H hG hΦ; simp only [List.nil_append, List.cons_append] at hG; have e3 : y 3 = _ := dh_get hG 3 rfl (by kernel_rfl); simp only [e3]; refine wantG rfl ?_; refine O_fld rfl Tryd.underlying91 rfl (Tryd.sizeOf88 _) rfl ?_; exact hΦ _ _ (Sub.refl _) H
    apply ObO.valw (V := .map (some r_p0_lists))
    · intro x; rfl
    · intro s' w' y Φ R hs H hG hΦ; simp only [List.nil_append, List.cons_append] at hG; have e4 : y 4 = _ := dh_get hG 4 rfl (by kernel_rfl); simp only [e4]; refine wantG rfl ?_; refine G_s1 _ _ rfl (Tryd.isAgg88 _) rfl H (hC_p0.mono hs) 0 rfl rfl ?_; exact hΦ _ _ (Sub.refl _) H
    apply ObO.valw (V := .pointer (some ⟨b3, 1, none⟩))
    · intro x; rfl
    · intro s' w' y Φ R hs H hG hΦ; refine wantG rfl ?_; refine O_fld rfl Tryd.underlying108 rfl (Tryd.sizeOf9 _) rfl ?_; exact hΦ _ _ (Sub.refl _) H
    apply ObO.valw (V := .string a1.key)
    · intro x; rfl
    · intro s' w' y Φ R hs H hG hΦ; simp only [List.nil_append, List.cons_append] at hG; have e6 : y 6 = _ := dh_get hG 6 rfl (by kernel_rfl); simp only [e6]; refine wantG rfl ?_; refine L_1 0 _ _ rfl (Tryd.isAgg9 _) rfl H rfl rfl ?_; exact hΦ _ _ (Sub.refl _) H
    apply ObO.valw (V := .slice Aq1 ((a0.lists a1.key).getD []).length cq1)
    · intro x; rfl
    · intro s' w' y Φ R hs H hG hΦ; simp only [List.nil_append, List.cons_append] at hG; have e5 : y 5 = _ := dh_get hG 5 rfl (by kernel_rfl); have e7 : y 7 = _ := dh_get hG 7 rfl (by kernel_rfl); simp only [e5, e7]; refine wantG rfl ?_; refine O_lkr rfl rfl rfl (hlkq1 hs H (Tryd.zeroValue27 _)) ?_; exact hΦ _ _ (Sub.refl _) H
    apply ObO.valw (V := .bool u1)
    · intro x; rfl
    · intro s' w' y Φ R hs H hG hΦ; simp only [List.nil_append, List.cons_append] at hG; have e1 : y 1 = _ := dh_get hG 1 rfl (by kernel_rfl); have e8 : y 8 = _ := dh_get hG 8 rfl (by kernel_rfl); simp only [e1, e8]; refine wantG rfl ?_; refine O_call2 rfl Tryd.func23 rfl rfl rfl rfl ?_; refine (slices_Equal_I_w (a0 := a1.list) (h_p0 := (h_p1_list.mono hs)) (a1 := (a0.lists a1.key).getD []) (h_p1 := (hsq1.mono hs)) (hm := gx1) (H := H)).mono ?_; rintro e w2 ⟨rfl, H⟩; exact ⟨_, rfl, hΦ _ _ (Sub.refl _) H⟩
    clear H
    intro s3 w3 yy hs3 H hG
    replace H := (show Holds _ _ ([] ++ _) _ from H); rw [List.nil_append] at H
    simp only [List.nil_append, List.cons_append] at hG
    have e0 : yy 0 = _ := gh_get hG 0 rfl
    have e1 : yy 1 = _ := gh_get hG 1 rfl
    have e2 : yy 2 = _ := gh_get hG 2 rfl
    have e3 : yy 3 = _ := gh_get hG 3 rfl
    have e4 : yy 4 = _ := gh_get hG 4 rfl
    have e5 : yy 5 = _ := gh_get hG 5 rfl
    have e6 : yy 6 = _ := gh_get hG 6 rfl
    have e7 : yy 7 = _ := gh_get hG 7 rfl
    have e8 : yy 8 = _ := gh_get hG 8 rfl
    have e9 : yy 9 = _ := gh_get hG 9 rfl
    simp only [e0, e1, e2, e3, e4, e5, e6, e7, e8, e9]
    clear hG e0 e1 e2 e3 e4 e5 e6 e7 e8 e9
    replace H := H.forget hs3; clear hs3
    apply seq_op (V := .bool u1) rfl
    · exact fun _ h => O_as rfl rfl h
    (try simp only [PT])
    refine list_end ?_
    refine then_norm ?_
    refine wp_ret ?_
    refine block_ret ?_
    refine then_ret ?_
    have hm := Option.some.inj hm
    subst hm
    replace H := H.dropAt 0 rfl; simp only [List.eraseIdx_cons_succ, List.eraseIdx_cons_zero] at H
    exact ret1 rfl (rv_tmp rfl) rfl ⟨rfl, H⟩
  · have hc1 := hc
    clear hc
    replace hm := ifF hc1 hm
    refine wp_seq ?_
    refine wp_region_lit ?_
    apply seq_op (V := .pointer (some ⟨b3, 0, none⟩)) rfl
    · exact fun _ h => O_fld rfl Tryd.underlying108 rfl (Tryd.sizeOf3 _) rfl h
    (try simp only [PT])
    apply seq_op (V := .int .i64 a1.kind) rfl
    · exact fun _ h => L_1 0 _ _ rfl (Tryd.isAgg3 _) rfl H rfl rfl h
    (try simp only [PT])
    apply seq_op (V := .bool (a1.kind == 4)) rfl
    · exact fun _ h => O_bin rfl rfl rfl eqg_int r_eql h
    (try simp only [PT])
    apply seq_op (V := .bool (a1.kind == 4)) rfl
    · exact fun _ h => O_mv rfl rfl h
    (try simp only [PT])
    refine seq_opg (c := (a1.kind == 4)) (V := .pointer (some ⟨b3, 4, none⟩)) (by first | exact wanted_t rfl rfl rfl | exact wanted_vt rfl rfl rfl) ?_ ?_
    · intro hc Φ hΦ; refine O_fld rfl Tryd.underlying108 rfl (Tryd.sizeOf4 _) rfl ?_; exact hΦ
    (try simp only [PT])
    refine seq_opg (c := (a1.kind == 4)) (V := .bool a1.has) (by first | exact wanted_t rfl rfl rfl | exact wanted_vt rfl rfl rfl) ?_ ?_
    · intro hc Φ hΦ; (repeat (first | rw [vg_of hc] | rw [vg_of (and_l hc)] | rw [vg_of (and_l (and_l hc))] | rw [vg_of (and_l (and_l (and_l hc)))] | rw [vg_and hc])); refine L_1 0 _ _ rfl (Tryd.isAgg4 _) rfl H rfl rfl ?_; exact hΦ
    (try simp only [PT])
    apply seq_op (V := .bool ((a1.kind == 4) && a1.has)) rfl
    · exact fun _ h => G_and _ _ _ rfl rfl rfl rfl h
    (try simp only [PT])
    apply seq_op (V := .bool ((a1.kind == 4) && a1.has)) rfl
    · exact fun _ h => O_as rfl rfl h
    (try simp only [PT])
    refine list_end ?_
    refine then_norm ?_
    refine wp_cond_split rfl (fun hc => ?_) (fun hc => ?_)
    · have hc2 := hc
      clear hc
      replace hm := ifT hc2 hm
      refine wp_seq ?_
      refine wp_region_lit ?_
      apply seq_op (V := .bool ((a0.regs a1.key).isSome)) rfl
      · exact fun _ h => O_mv rfl rfl h
      (try simp only [PT])
      apply seq_op (V := .pointer (some ⟨b3, 5, none⟩)) rfl
      · exact fun _ h => O_fld rfl Tryd.underlying108 rfl (Tryd.sizeOf4 _) rfl h
      (try simp only [PT])
      apply seq_op (V := .bool a1.isNil) rfl
      · exact fun _ h => L_1 0 _ _ rfl (Tryd.isAgg4 _) rfl H rfl rfl h
      (try simp only [PT])
      apply seq_op (V := .bool (!(((a0.regs a1.key).isSome) == a1.isNil))) rfl
      · exact fun _ h => O_bin rfl rfl rfl eqg_bool (r_bne Tryd.underlying4) h
      (try simp only [PT])
      apply seq_op (V := .bool (!(((a0.regs a1.key).isSome) == a1.isNil))) rfl
      · exact fun _ h => O_mv rfl rfl h
      (try simp only [PT])
      refine seq_opg (c := (!(((a0.regs a1.key).isSome) == a1.isNil))) (V := .pointer (some ⟨b3, 5, none⟩)) (by first | exact wanted_t rfl rfl rfl | exact wanted_vt rfl rfl rfl) ?_ ?_
      · intro hc Φ hΦ; refine O_fld rfl Tryd.underlying108 rfl (Tryd.sizeOf4 _) rfl ?_; exact hΦ
      (try simp only [PT])
      refine seq_opg (c := (!(((a0.regs a1.key).isSome) == a1.isNil))) (V := .bool a1.isNil) (by first | exact wanted_t rfl rfl rfl | exact wanted_vt rfl rfl rfl) ?_ ?_
      · intro hc Φ hΦ; (repeat (first | rw [vg_of hc] | rw [vg_of (and_l hc)] | rw [vg_of (and_l (and_l hc))] | rw [vg_of (and_l (and_l (and_l hc)))] | rw [vg_and hc])); refine L_1 0 _ _ rfl (Tryd.isAgg4 _) rfl H rfl rfl ?_; exact hΦ
      (try simp only [PT])
      refine seq_opg (c := (!(((a0.regs a1.key).isSome) == a1.isNil))) (V := .bool a1.isNil) (by first | exact wanted_t rfl rfl rfl | exact wanted_vt rfl rfl rfl) ?_ ?_
      · intro hc Φ hΦ; (repeat (first | rw [vg_of hc] | rw [vg_of (and_l hc)] | rw [vg_of (and_l (and_l hc))] | rw [vg_of (and_l (and_l (and_l hc)))] | rw [vg_and hc])); refine O_mv rfl rfl ?_; exact hΦ
      (try simp only [PT])
      refine seq_opg (c := ((!(((a0.regs a1.key).isSome) == a1.isNil)) && !a1.isNil)) (V := .int .i64 ((a0.regs a1.key).getD 0)) (by first | exact wanted_f rfl rfl rfl | exact wanted_vf rfl rfl rfl) ?_ ?_
      · intro hc Φ hΦ; refine O_mv rfl rfl ?_; exact hΦ
      (try simp only [PT])
      refine seq_opg (c := ((!(((a0.regs a1.key).isSome) == a1.isNil)) && !a1.isNil)) (V := .pointer (some ⟨b3, 2, none⟩)) (by first | exact wanted_f rfl rfl rfl | exact wanted_vf rfl rfl rfl) ?_ ?_
      · intro hc Φ hΦ; refine O_fld rfl Tryd.underlying108 rfl (Tryd.sizeOf3 _) rfl ?_; exact hΦ
      (try simp only [PT])
      refine seq_opg (c := ((!(((a0.regs a1.key).isSome) == a1.isNil)) && !a1.isNil)) (V := .int .i64 a1.value) (by first | exact wanted_f rfl rfl rfl | exact wanted_vf rfl rfl rfl) ?_ ?_
      · intro hc Φ hΦ; (repeat (first | rw [vg_of hc] | rw [vg_of (and_l hc)] | rw [vg_of (and_l (and_l hc))] | rw [vg_of (and_l (and_l (and_l hc)))] | rw [vg_and hc])); refine L_1 0 _ _ rfl (Tryd.isAgg3 _) rfl H rfl rfl ?_; exact hΦ
      (try simp only [PT])
      refine seq_opg (c := ((!(((a0.regs a1.key).isSome) == a1.isNil)) && !a1.isNil)) (V := .bool (((a0.regs a1.key).getD 0) == a1.value)) (by first | exact wanted_f rfl rfl rfl | exact wanted_vf rfl rfl rfl) ?_ ?_
      · intro hc Φ hΦ; (repeat (first | rw [vg_of hc] | rw [vg_of (and_l hc)] | rw [vg_of (and_l (and_l hc))] | rw [vg_of (and_l (and_l (and_l hc)))] | rw [vg_and hc])); refine O_bin rfl rfl rfl eqg_int r_eql ?_; exact hΦ
      (try simp only [PT])
      refine seq_opg (c := (!(((a0.regs a1.key).isSome) == a1.isNil))) (V := .bool (a1.isNil || (((a0.regs a1.key).getD 0) == a1.value))) (by first | exact wanted_t rfl rfl rfl | exact wanted_vt rfl rfl rfl) ?_ ?_
      · intro hc Φ hΦ; (repeat (first | rw [vg_of hc] | rw [vg_of (and_l hc)] | rw [vg_of (and_l (and_l hc))] | rw [vg_of (and_l (and_l (and_l hc)))] | rw [vg_and hc])); refine G_or _ _ _ rfl rfl rfl rfl ?_; exact hΦ
      (try simp only [PT])
      apply seq_op (V := .bool ((!(((a0.regs a1.key).isSome) == a1.isNil)) && (a1.isNil || (((a0.regs a1.key).getD 0) == a1.value)))) rfl
      · exact fun _ h => G_and _ _ _ rfl rfl rfl rfl h
      (try simp only [PT])
      apply seq_op (V := .bool ((!(((a0.regs a1.key).isSome) == a1.isNil)) && (a1.isNil || (((a0.regs a1.key).getD 0) == a1.value)))) rfl
      · exact fun _ h => O_as rfl rfl h
      (try simp only [PT])
      refine list_end ?_
      refine then_norm ?_
      refine wp_ret ?_
      refine block_ret ?_
      refine then_ret ?_
      have hm := Option.some.inj hm
      subst hm
      replace H := H.dropAt 0 rfl; simp only [List.eraseIdx_cons_succ, List.eraseIdx_cons_zero] at H
      exact ret1 rfl (rv_tmp rfl) rfl ⟨rfl, H⟩
    · have hc2 := hc
      clear hc
      replace hm := ifF hc2 hm
      refine wp_skip ?_
      refine block_norm ?_
      refine then_norm ?_
      refine wp_seq ?_
      refine wp_region_lit ?_
      apply seq_op (V := .bool true) rfl
      · exact fun _ h => O_as rfl rfl h
      (try simp only [PT])
      refine list_end ?_
      refine then_norm ?_
      refine wp_ret ?_
      have hm := Option.some.inj hm
      subst hm
      replace H := H.dropAt 0 rfl; simp only [List.eraseIdx_cons_succ, List.eraseIdx_cons_zero] at H
      exact ret1 rfl (rv_tmp rfl) rfl ⟨rfl, H⟩
def model_State_does_1_f (a0 : Op') : Unit := ()

set_option maxHeartbeats 4000000 in
theorem model_State_does_1_w {E : World} {s : SH} {L : List HP} {w : World} {a0 : Op'} {A_p0_list : Option Addr} {c_p0_list : Nat} (h_p0_list : kI.Sl s (.slice A_p0_list a0.list.length c_p0_list) a0.list) (H : Holds E s (L) w) :
    Calls Tryd.prog 136 #[.agg #[.int .i64 a0.kind, .string a0.key, .int .i64 a0.value, .slice A_p0_list a0.list.length c_p0_list, .bool a0.has, .bool a0.isNil]] w fun e w' => e = .returned (.tuple #[]) ∧ Holds E s (L) w' := by
  obtain ⟨R, hm⟩ : ∃ R, model_State_does_1_f a0 = R := ⟨_, rfl⟩
  (try rw [hm])
  unfold model_State_does_1_f at hm
  go_enter Tryd.func136, Tryd.ntmps136
  refine wp_region_lit ?_
  refine OpG.list rfl ?_; refine B_x 108 _ rfl (v := .agg #[.int .i64 a0.kind, .string a0.key, .int .i64 a0.value, .slice A_p0_list a0.list.length c_p0_list, .bool a0.has, .bool a0.isNil]) rfl H ?_; clear H; intro b1 w1 H; (try simp only [Value.cells] at H)
  (try simp only [PT])
  refine list_end ?_
  subst hm
  replace H := H.dropAt 0 rfl; simp only [List.eraseIdx_cons_succ, List.eraseIdx_cons_zero] at H
  exact end0 rfl rfl ⟨rfl, H⟩
def model_State_append_f (a0 : MSt) (a1 : Op') : Option MSt := (app 8 ((a0.lists a1.key).getD []) a1.value).bind fun u1 => some (⟨fset a0.lists a1.key u1, a0.regs⟩ : MSt)

set_option maxHeartbeats 4000000 in
theorem model_State_append_w {E : World} {s : SH} {L : List HP} {w : World} {a0 : MSt} {a1 : Op'} {b_p0 : Nat} {r_p0_lists : Nat} {r_p0_regs : Nat} {A_p1_list : Option Addr} {c_p1_list : Nat} (h_p1_list : kI.Sl s (.slice A_p1_list a1.list.length c_p1_list) a1.list) (hz_p1_key : a1.key.size ≤ 140737488351232) (hr_p1_value : Kin.inI64 a1.value) {R : MSt} (hm : model_State_append_f a0 a1 = some R) (H : Holds E s (pt b_p0 (.cells #[.map (some r_p0_lists), .map (some r_p0_regs)] 91 (0, 0)) :: mpO kcS kI s r_p0_lists a0.lists :: mpF kcS vcI r_p0_regs a0.regs :: L) w) :
    Calls Tryd.prog 137 #[.pointer (some ⟨b_p0, 0, none⟩), .agg #[.int .i64 a1.kind, .string a1.key, .int .i64 a1.value, .slice A_p1_list a1.list.length c_p1_list, .bool a1.has, .bool a1.isNil]] w fun e w' => ∃ ro0_lists ro0_regs, e = .returned (.tuple #[]) ∧ Holds E s (pt b_p0 (.cells #[.map (some ro0_lists), .map (some ro0_regs)] 91 (0, 0)) :: mpO kcS kI s ro0_lists R.lists :: mpF kcS vcI ro0_regs R.regs :: L) w' := by
  unfold model_State_append_f at hm
  go_enter Tryd.func137, Tryd.ntmps137
  refine wp_seq ?_
  refine wp_region_lit ?_
  refine OpG.list rfl ?_; refine B_x 108 _ rfl (v := .agg #[.int .i64 a1.kind, .string a1.key, .int .i64 a1.value, .slice A_p1_list a1.list.length c_p1_list, .bool a1.has, .bool a1.isNil]) rfl H ?_; clear H; intro b3 w1 H; (try simp only [Value.cells] at H)
  (try simp only [PT])
  refine list_end ?_
  refine then_norm ?_
  obtain ⟨At1, ct1, H⟩ := mpO_take a1.key 2 rfl H; simp only [List.set_cons_succ, List.set_cons_zero] at H
  obtain ⟨u1, gx1, hm⟩ := bs hm
  obtain ⟨hroomgx1, egx1⟩ := app_some gx1
  refine wp_draw_C (k := 17) (sz := 21) [15, 16] [.pointer (some ⟨b_p0, 0, none⟩), .pointer (some ⟨b_p0, 0, none⟩), .pointer (some ⟨b_p0, 0, none⟩), .map (some r_p0_lists), .pointer (some ⟨b3, 1, none⟩), .string a1.key, .pointer (some ⟨b_p0, 0, none⟩), .pointer (some ⟨b_p0, 0, none⟩), .pointer (some ⟨b_p0, 0, none⟩), .map (some r_p0_lists), .pointer (some ⟨b3, 1, none⟩), .string a1.key, .slice At1 ((a0.lists a1.key).getD []).length ct1, .pointer (some ⟨b3, 2, none⟩), .int .i64 a1.value, undef, undef] [pt b3 (.cells #[.int .i64 a1.kind, .string a1.key, .int .i64 a1.value, .slice A_p1_list a1.list.length c_p1_list, .bool a1.has, .bool a1.isNil] 108 (0, 0)), pt b_p0 (.cells #[.map (some r_p0_lists), .map (some r_p0_regs)] 91 (0, 0)), mpH kcS kI s r_p0_lists a0.lists a1.key (.slice At1 ((a0.lists a1.key).getD []).length ct1)] [fun w x => ∃ (b19 : Nat), x 15 = .slice (some ⟨b19, 0, none⟩) 1 1 ∧ Holds E s (pt b19 (.cells #[.int .i64 a1.value] 3 (0, 0)) :: (kI.sh s).Osl (.slice At1 ((a0.lists a1.key).getD []).length ct1) ((a0.lists a1.key).getD []) :: pt b3 (.cells #[.int .i64 a1.kind, .string a1.key, .int .i64 a1.value, .slice A_p1_list a1.list.length c_p1_list, .bool a1.has, .bool a1.isNil] 108 (0, 0)) :: pt b_p0 (.cells #[.map (some r_p0_lists), .map (some r_p0_regs)] 91 (0, 0)) :: mpH kcS kI s r_p0_lists a0.lists a1.key (.slice At1 ((a0.lists a1.key).getD []).length ct1) :: mpF kcS vcI r_p0_regs a0.regs :: L) w, fun w x => ∃ (b19 : Nat) (Av1 : Option Addr) (cv1 : Nat), x 15 = .slice (some ⟨b19, 0, none⟩) 1 1 ∧ x 16 = .slice Av1 u1.length cv1 ∧ Holds E s ((kI.sh s).Osl (.slice Av1 u1.length cv1) u1 :: pt b3 (.cells #[.int .i64 a1.kind, .string a1.key, .int .i64 a1.value, .slice A_p1_list a1.list.length c_p1_list, .bool a1.has, .bool a1.isNil] 108 (0, 0)) :: pt b_p0 (.cells #[.map (some r_p0_lists), .map (some r_p0_regs)] 91 (0, 0)) :: mpH kcS kI s r_p0_lists a0.lists a1.key (.slice At1 ((a0.lists a1.key).getD []).length ct1) :: mpF kcS vcI r_p0_regs a0.regs :: L) w] mixed (by simp) rfl (by kernel_rfl) (by kernel_rfl) (by kernel_rfl) (by simp) rfl H (by simp only [List.take_succ_cons, List.take_zero]; exact rfl) (by simp only [List.drop_succ_cons, List.drop_zero]; exact rfl)
    (fun x => by simp only [ov, Act.put, List.setIfInBounds_toArray, List.set_cons_succ, List.set_cons_zero, Nat.zero_add, Nat.reduceAdd]; exact rfl) ?_ ?_ ?_ ?_
  · refine ⟨?_, ?_, ?_, trivial⟩
    · intro w x hS; have H : Holds E s ((kI.sh s).Osl (.slice At1 ((a0.lists a1.key).getD []).length ct1) ((a0.lists a1.key).getD []) :: pt b3 (.cells #[.int .i64 a1.kind, .string a1.key, .int .i64 a1.value, .slice A_p1_list a1.list.length c_p1_list, .bool a1.has, .bool a1.isNil] 108 (0, 0)) :: pt b_p0 (.cells #[.map (some r_p0_lists), .map (some r_p0_regs)] 91 (0, 0)) :: mpH kcS kI s r_p0_lists a0.lists a1.key (.slice At1 ((a0.lists a1.key).getD []).length ct1) :: mpF kcS vcI r_p0_regs a0.regs :: L) w := hS; replace H := H.front 3 rfl; simp only [List.eraseIdx_cons_succ, List.eraseIdx_cons_zero] at H; replace H := H.front 3 rfl; simp only [List.eraseIdx_cons_succ, List.eraseIdx_cons_zero] at H; replace H := H.front 3 rfl; simp only [List.eraseIdx_cons_succ, List.eraseIdx_cons_zero] at H; exact ⟨_, _, Sub.refl _, H⟩
    · intro w x hS; obtain ⟨b19, e15, H⟩ := hS; replace H := H.front 4 rfl; simp only [List.eraseIdx_cons_succ, List.eraseIdx_cons_zero] at H; replace H := H.front 4 rfl; simp only [List.eraseIdx_cons_succ, List.eraseIdx_cons_zero] at H; replace H := H.front 4 rfl; simp only [List.eraseIdx_cons_succ, List.eraseIdx_cons_zero] at H; exact ⟨_, _, Sub.refl _, H⟩
    · intro w x hS; obtain ⟨b19, Av1, cv1, e15, e16, H⟩ := hS; replace H := H.front 3 rfl; simp only [List.eraseIdx_cons_succ, List.eraseIdx_cons_zero] at H; replace H := H.front 3 rfl; simp only [List.eraseIdx_cons_succ, List.eraseIdx_cons_zero] at H; replace H := H.front 3 rfl; simp only [List.eraseIdx_cons_succ, List.eraseIdx_cons_zero] at H; exact ⟨_, _, Sub.refl _, H⟩
  · refine ⟨?_, ?_, ?_, ?_, ?_, ?_, ?_, ?_, ?_, ?_, ?_, ?_, ?_, ?_, ?_, ?_, ?_, trivial⟩
    · refine .inr ?_; intro s' R w' x Φ hs H hx hΦ; refine wantG rfl ?_; refine O_mv rfl rfl ?_; exact hΦ
    · refine .inr ?_; intro s' R w' x Φ hs H hx hΦ; have e0 : x 0 = .pointer (some ⟨b_p0, 0, none⟩) := hx 0 (by decide) (by decide); simp only [e0]; refine wantG rfl ?_; refine O_nil rfl rfl ?_; exact hΦ
    · refine .inr ?_; intro s' R w' x Φ hs H hx hΦ; have e1 : x 1 = .pointer (some ⟨b_p0, 0, none⟩) := hx 1 (by decide) (by decide); simp only [e1]; refine wantG rfl ?_; refine O_fld rfl Tryd.underlying91 rfl (Tryd.sizeOf88 _) rfl ?_; exact hΦ
    · refine .inr ?_; intro s' R w' x Φ hs H hx hΦ; have e2 : x 2 = .pointer (some ⟨b_p0, 0, none⟩) := hx 2 (by decide) (by decide); simp only [e2]; refine wantG rfl ?_; refine L_1 1 _ _ rfl (Tryd.isAgg88 _) rfl H rfl rfl ?_; exact hΦ
    · refine .inr ?_; intro s' R w' x Φ hs H hx hΦ; refine wantG rfl ?_; refine O_fld rfl Tryd.underlying108 rfl (Tryd.sizeOf9 _) rfl ?_; exact hΦ
    · refine .inr ?_; intro s' R w' x Φ hs H hx hΦ; have e4 : x 4 = .pointer (some ⟨b3, 1, none⟩) := hx 4 (by decide) (by decide); simp only [e4]; refine wantG rfl ?_; refine L_1 0 _ _ rfl (Tryd.isAgg9 _) rfl H rfl rfl ?_; exact hΦ
    · refine .inr ?_; intro s' R w' x Φ hs H hx hΦ; refine wantG rfl ?_; refine O_mv rfl rfl ?_; exact hΦ
    · refine .inr ?_; intro s' R w' x Φ hs H hx hΦ; have e6 : x 6 = .pointer (some ⟨b_p0, 0, none⟩) := hx 6 (by decide) (by decide); simp only [e6]; refine wantG rfl ?_; refine O_nil rfl rfl ?_; exact hΦ
    · refine .inr ?_; intro s' R w' x Φ hs H hx hΦ; have e7 : x 7 = .pointer (some ⟨b_p0, 0, none⟩) := hx 7 (by decide) (by decide); simp only [e7]; refine wantG rfl ?_; refine O_fld rfl Tryd.underlying91 rfl (Tryd.sizeOf88 _) rfl ?_; exact hΦ
    · refine .inr ?_; intro s' R w' x Φ hs H hx hΦ; have e8 : x 8 = .pointer (some ⟨b_p0, 0, none⟩) := hx 8 (by decide) (by decide); simp only [e8]; refine wantG rfl ?_; refine L_1 1 _ _ rfl (Tryd.isAgg88 _) rfl H rfl rfl ?_; exact hΦ
    · refine .inr ?_; intro s' R w' x Φ hs H hx hΦ; refine wantG rfl ?_; refine O_fld rfl Tryd.underlying108 rfl (Tryd.sizeOf9 _) rfl ?_; exact hΦ
    · refine .inr ?_; intro s' R w' x Φ hs H hx hΦ; have e10 : x 10 = .pointer (some ⟨b3, 1, none⟩) := hx 10 (by decide) (by decide); simp only [e10]; refine wantG rfl ?_; refine L_1 0 _ _ rfl (Tryd.isAgg9 _) rfl H rfl rfl ?_; exact hΦ
    · refine .inr ?_; intro s' R w' x Φ hs H hx hΦ; have e9 : x 9 = .map (some r_p0_lists) := hx 9 (by decide) (by decide); have e11 : x 11 = .string a1.key := hx 11 (by decide) (by decide); simp only [e9, e11]; refine wantG rfl ?_; refine H_get mk_S 2 88 _ _ rfl Tryd.underlying88 (k := a1.key) (Nat.le_trans hz_p1_key (by decide)) rfl rfl H rfl (Tryd.zeroValue27 _) ?_; exact hΦ
    · refine .inr ?_; intro s' R w' x Φ hs H hx hΦ; refine wantG rfl ?_; refine O_fld rfl Tryd.underlying108 rfl (Tryd.sizeOf3 _) rfl ?_; exact hΦ
    · refine .inr ?_; intro s' R w' x Φ hs H hx hΦ; have e13 : x 13 = .pointer (some ⟨b3, 2, none⟩) := hx 13 (by decide) (by decide); simp only [e13]; refine wantG rfl ?_; refine L_1 0 _ _ rfl (Tryd.isAgg3 _) rfl H rfl rfl ?_; exact hΦ
    · exact .inl (by decide)
    · exact .inl (by decide)
  · refine ⟨?_, ?_, trivial⟩
    · intro o ho; obtain rfl := Option.some.inj ho; intro w' x Φ hS hx hΦ
      have H : Holds E s ((kI.sh s).Osl (.slice At1 ((a0.lists a1.key).getD []).length ct1) ((a0.lists a1.key).getD []) :: pt b3 (.cells #[.int .i64 a1.kind, .string a1.key, .int .i64 a1.value, .slice A_p1_list a1.list.length c_p1_list, .bool a1.has, .bool a1.isNil] 108 (0, 0)) :: pt b_p0 (.cells #[.map (some r_p0_lists), .map (some r_p0_regs)] 91 (0, 0)) :: mpH kcS kI s r_p0_lists a0.lists a1.key (.slice At1 ((a0.lists a1.key).getD []).length ct1) :: mpF kcS vcI r_p0_regs a0.regs :: L) w' := hS; clear hS
      have e14 : x 14 = .int .i64 a1.value := hx 14 (by decide) (by decide)
      simp only [e14]
      refine wantG rfl ?_
      refine SL_1 rfl (v := .int .i64 a1.value) rfl Tryd.underlying27 Tryd.sizeOf3 Tryd.zeroValue3 rfl rfl (by decide) (by decide) H ?_; clear H; intro b19 w1 H; (try simp only [Value.cells] at H)
      exact hΦ _ _ ⟨b19, updV_same, H⟩
    · intro o ho; obtain rfl := Option.some.inj ho; intro w' x Φ hS hx hΦ
      obtain ⟨b19, e15, H⟩ := hS
      have e12 : x 12 = .slice At1 ((a0.lists a1.key).getD []).length ct1 := hx 12 (by decide) (by decide)
      simp only [e12, e15]
      refine wantG rfl ?_
      refine AP_1 (p := a1.value) 0 kI_at _ _ rfl (kI_mk' (s := s) (x := a1.value) hr_p1_value) H rfl rfl rfl hroomgx1 ?_; clear H; intro v1 w1 H; (try simp only [List.set_cons_succ, List.set_cons_zero] at H)
      rw [← egx1] at H
      obtain ⟨Av1, cv1, rfl, -⟩ := (H.front 0 rfl).len
      exact hΦ _ _ ⟨b19, Av1, cv1, (updV_ne (by decide)).trans e15, updV_same, H⟩
  · clear H
    intro w' x hS hx
    obtain ⟨b19, Av1, cv1, e15, e16, H⟩ := hS
    have e0 : x 0 = .pointer (some ⟨b_p0, 0, none⟩) := hx 0 (by decide) (by decide)
    have e1 : x 1 = .pointer (some ⟨b_p0, 0, none⟩) := hx 1 (by decide) (by decide)
    have e2 : x 2 = .pointer (some ⟨b_p0, 0, none⟩) := hx 2 (by decide) (by decide)
    have e3 : x 3 = .map (some r_p0_lists) := hx 3 (by decide) (by decide)
    have e4 : x 4 = .pointer (some ⟨b3, 1, none⟩) := hx 4 (by decide) (by decide)
    have e5 : x 5 = .string a1.key := hx 5 (by decide) (by decide)
    have e6 : x 6 = .pointer (some ⟨b_p0, 0, none⟩) := hx 6 (by decide) (by decide)
    have e7 : x 7 = .pointer (some ⟨b_p0, 0, none⟩) := hx 7 (by decide) (by decide)
    have e8 : x 8 = .pointer (some ⟨b_p0, 0, none⟩) := hx 8 (by decide) (by decide)
    have e9 : x 9 = .map (some r_p0_lists) := hx 9 (by decide) (by decide)
    have e10 : x 10 = .pointer (some ⟨b3, 1, none⟩) := hx 10 (by decide) (by decide)
    have e11 : x 11 = .string a1.key := hx 11 (by decide) (by decide)
    have e12 : x 12 = .slice At1 ((a0.lists a1.key).getD []).length ct1 := hx 12 (by decide) (by decide)
    have e13 : x 13 = .pointer (some ⟨b3, 2, none⟩) := hx 13 (by decide) (by decide)
    have e14 : x 14 = .int .i64 a1.value := hx 14 (by decide) (by decide)
    simp only [e0, e1, e2, e3, e4, e5, e6, e7, e8, e9, e10, e11, e12, e13, e14, e15, e16]
    clear hx
    refine OpG.list rfl ?_; refine O_in mk_S 2 88 _ _ _ rfl Tryd.underlying88 (k := a1.key) (Nat.le_trans hz_p1_key (by decide)) rfl rfl rfl H rfl ?_; clear H; intro w1 H; simp only [List.set_cons_succ, List.set_cons_zero] at H
    (try simp only [PT])
    refine list_end ?_
    have hm := Option.some.inj hm
    subst hm
    replace H := H.front 3 rfl; simp only [List.eraseIdx_cons_succ, List.eraseIdx_cons_zero] at H
    replace H := H.front 3 rfl; simp only [List.eraseIdx_cons_succ, List.eraseIdx_cons_zero] at H
    replace H := H.front 3 rfl; simp only [List.eraseIdx_cons_succ, List.eraseIdx_cons_zero] at H
    replace H := H.dropAt 3 rfl; simp only [List.eraseIdx_cons_succ, List.eraseIdx_cons_zero] at H
    exact end0 rfl rfl ⟨r_p0_lists, r_p0_regs, rfl, H⟩
def model_State_write_f (a0 : MSt) (a1 : Op') : MSt := (⟨a0.lists, fset a0.regs a1.key a1.value⟩ : MSt)

set_option maxHeartbeats 4000000 in
theorem model_State_write_w {E : World} {s : SH} {L : List HP} {w : World} {a0 : MSt} {a1 : Op'} {b_p0 : Nat} {r_p0_lists : Nat} {r_p0_regs : Nat} {A_p1_list : Option Addr} {c_p1_list : Nat} (h_p1_list : kI.Sl s (.slice A_p1_list a1.list.length c_p1_list) a1.list) (hz_p1_key : a1.key.size ≤ 140737488351232) (H : Holds E s (pt b_p0 (.cells #[.map (some r_p0_lists), .map (some r_p0_regs)] 91 (0, 0)) :: mpO kcS kI s r_p0_lists a0.lists :: mpF kcS vcI r_p0_regs a0.regs :: L) w) :
    Calls Tryd.prog 138 #[.pointer (some ⟨b_p0, 0, none⟩), .agg #[.int .i64 a1.kind, .string a1.key, .int .i64 a1.value, .slice A_p1_list a1.list.length c_p1_list, .bool a1.has, .bool a1.isNil]] w fun e w' => ∃ ro0_lists ro0_regs, e = .returned (.tuple #[]) ∧ Holds E s (pt b_p0 (.cells #[.map (some ro0_lists), .map (some ro0_regs)] 91 (0, 0)) :: mpO kcS kI s ro0_lists ((model_State_write_f a0 a1).lists) :: mpF kcS vcI ro0_regs ((model_State_write_f a0 a1).regs) :: L) w' := by
  obtain ⟨R, hm⟩ : ∃ R, model_State_write_f a0 a1 = R := ⟨_, rfl⟩
  (try rw [hm])
  unfold model_State_write_f at hm
  go_enter Tryd.func138, Tryd.ntmps138
  refine wp_seq ?_
  refine wp_region_lit ?_
  refine OpG.list rfl ?_; refine B_x 108 _ rfl (v := .agg #[.int .i64 a1.kind, .string a1.key, .int .i64 a1.value, .slice A_p1_list a1.list.length c_p1_list, .bool a1.has, .bool a1.isNil]) rfl H ?_; clear H; intro b3 w1 H; (try simp only [Value.cells] at H)
  (try simp only [PT])
  refine list_end ?_
  refine then_norm ?_
  refine wp_draw_obO (k := 8) (sz := 12) (List.replicate 8 8) (fun _ => []) mixed (by simp) rfl (by kernel_rfl) (by kernel_rfl) (by kernel_rfl) H (by simp only [List.take_succ_cons, List.take_zero]; exact rfl) (by simp only [List.drop_succ_cons, List.drop_zero]; exact rfl)
    (fun y => by simp only [ov, Act.put, List.setIfInBounds_toArray, List.set_cons_succ, List.set_cons_zero, Nat.zero_add, Nat.reduceAdd]; exact rfl) ?_
  apply ObO.valw (V := .pointer (some ⟨b_p0, 0, none⟩))
  · intro x; rfl
  · intro s' w' y Φ R hs H hG hΦ; refine wantG rfl ?_; refine O_mv rfl rfl ?_; exact hΦ _ _ (Sub.refl _) H
  apply ObO.valw (V := .pointer (some ⟨b_p0, 0, none⟩))
  · intro x; rfl
  · intro s' w' y Φ R hs H hG hΦ; simp only [List.nil_append, List.cons_append] at hG; have e0 : y 0 = _ := dh_get hG 0 rfl (by kernel_rfl); simp only [e0]; refine wantG rfl ?_; refine O_nil rfl rfl ?_; exact hΦ _ _ (Sub.refl _) H
  apply ObO.valw (V := .pointer (some ⟨b_p0, 1, none⟩))
  · intro x; rfl
  · intro s' w' y Φ R hs H hG hΦ; simp only [List.nil_append, List.cons_append] at hG; have e1 : y 1 = _ := dh_get hG 1 rfl (by kernel_rfl); simp only [e1]; refine wantG rfl ?_; refine O_fld rfl Tryd.underlying91 rfl (Tryd.sizeOf89 _) rfl ?_; exact hΦ _ _ (Sub.refl _) H
  apply ObO.valw (V := .map (some r_p0_regs))
  · intro x; rfl
  · intro s' w' y Φ R hs H hG hΦ; simp only [List.nil_append, List.cons_append] at hG; have e2 : y 2 = _ := dh_get hG 2 rfl (by kernel_rfl); simp only [e2]; refine wantG rfl ?_; refine L_1 1 _ _ rfl (Tryd.isAgg89 _) rfl H rfl rfl ?_; exact hΦ _ _ (Sub.refl _) H
  apply ObO.valw (V := .pointer (some ⟨b3, 1, none⟩))
  · intro x; rfl
  · intro s' w' y Φ R hs H hG hΦ; refine wantG rfl ?_; refine O_fld rfl Tryd.underlying108 rfl (Tryd.sizeOf9 _) rfl ?_; exact hΦ _ _ (Sub.refl _) H
  apply ObO.valw (V := .string a1.key)
  · intro x; rfl
  · intro s' w' y Φ R hs H hG hΦ; simp only [List.nil_append, List.cons_append] at hG; have e4 : y 4 = _ := dh_get hG 4 rfl (by kernel_rfl); simp only [e4]; refine wantG rfl ?_; refine L_1 0 _ _ rfl (Tryd.isAgg9 _) rfl H rfl rfl ?_; exact hΦ _ _ (Sub.refl _) H
  apply ObO.valw (V := .pointer (some ⟨b3, 2, none⟩))
  · intro x; rfl
  · intro s' w' y Φ R hs H hG hΦ; refine wantG rfl ?_; refine O_fld rfl Tryd.underlying108 rfl (Tryd.sizeOf3 _) rfl ?_; exact hΦ _ _ (Sub.refl _) H
  apply ObO.valw (V := .int .i64 a1.value)
  · intro x; rfl
  · intro s' w' y Φ R hs H hG hΦ; simp only [List.nil_append, List.cons_append] at hG; have e6 : y 6 = _ := dh_get hG 6 rfl (by kernel_rfl); simp only [e6]; refine wantG rfl ?_; refine L_1 0 _ _ rfl (Tryd.isAgg3 _) rfl H rfl rfl ?_; exact hΦ _ _ (Sub.refl _) H
  clear H
  intro s3 w3 yy hs3 H hG
  replace H := (show Holds _ _ ([] ++ _) _ from H); rw [List.nil_append] at H
  simp only [List.nil_append, List.cons_append] at hG
  have e0 : yy 0 = _ := gh_get hG 0 rfl
  have e1 : yy 1 = _ := gh_get hG 1 rfl
  have e2 : yy 2 = _ := gh_get hG 2 rfl
  have e3 : yy 3 = _ := gh_get hG 3 rfl
  have e4 : yy 4 = _ := gh_get hG 4 rfl
  have e5 : yy 5 = _ := gh_get hG 5 rfl
  have e6 : yy 6 = _ := gh_get hG 6 rfl
  have e7 : yy 7 = _ := gh_get hG 7 rfl
  simp only [e0, e1, e2, e3, e4, e5, e6, e7]
  clear hG e0 e1 e2 e3 e4 e5 e6 e7
  replace H := H.forget hs3; clear hs3
  refine OpG.list rfl ?_; refine F_put mk_S 3 89 _ _ _ rfl Tryd.underlying89 (k := a1.key) (v := a1.value) (Nat.le_trans hz_p1_key (by decide)) trivial rfl rfl rfl H rfl ?_; clear H; intro w1 H; simp only [List.set_cons_succ, List.set_cons_zero] at H
  (try simp only [PT])
  refine list_end ?_
  subst hm
  replace H := H.front 3 rfl; simp only [List.eraseIdx_cons_succ, List.eraseIdx_cons_zero] at H
  replace H := H.front 3 rfl; simp only [List.eraseIdx_cons_succ, List.eraseIdx_cons_zero] at H
  replace H := H.front 3 rfl; simp only [List.eraseIdx_cons_succ, List.eraseIdx_cons_zero] at H
  replace H := H.dropAt 3 rfl; simp only [List.eraseIdx_cons_succ, List.eraseIdx_cons_zero] at H
  exact end0 rfl rfl ⟨r_p0_lists, r_p0_regs, rfl, H⟩
end Go.Proofs.YtemdmpgekegfhaaDoor
