/- What reads alike is told to be the same. -/
import Derived.Test.YtemdmpgekegfhaaDoorSmall
namespace Go.Proofs.YtemdmpgekegfhaaDoor
open Go.RowKit
set_option linter.all false
set_option maxRecDepth 10000

/-- What stays may be forgotten. -/
theorem Holds.forget {E : World} {s s' : SH} {L : List HP} {w : World} (hs : Sub s s') (H : Holds E s' L w) : Holds E s L w := by
  obtain ⟨h, k, d, r1, r2⟩ := H.ex
  refine ⟨H.os, H.tape, H.output, h, k, fun b => ?_, fun b o hb => r1 b o (hs b o hb), r2⟩
  cases e : s b with
  | none => exact .inl rfl
  | some o =>
    rcases d b with h' | h'
    · rw [hs b o e] at h'; cases h'
    · exact .inr h'
set_option maxHeartbeats 4000000 in
theorem eqInts {E : World} {s : SH} {L : List HP} {w : World} {v v' : Value} {xs : List _} (hv : kI.Sl s v xs) (hv' : kI.Sl s v' xs) (H : Holds E s L w) :
    Calls Tryd.prog 23 #[v, v'] w fun e w' => e = .returned (.bool true) ∧ Holds E s L w' := by
  have hv0 := hv
  have hv0' := hv'
  obtain ⟨A, cap, rfl, h1, h2, -⟩ := hv
  obtain ⟨A', cap', rfl, h1', h2', -⟩ := hv'
  have hb : xs.length ≤ 140737488355328 := by have h : xs.length * 8 ≤ 140737488355328 := h2; omega
  clear h2 h2'
  go_enter Tryd.func23, Tryd.ntmps23
  go_wp2
  go_loopw [13] (fun i wr => ∃ k : Nat, k ≤ xs.length ∧ i = .int .i64 k ∧ Holds E s L wr) (fun i _ => xs.length - (intOf i).toNat)
  case atStart => exact ⟨0, Nat.zero_le _, rfl, H⟩
  case round =>
    clear H
    obtain ⟨k, hk, rfl, H⟩ := hrel
    by_cases hlt : k < xs.length
    · obtain ⟨b, off, c, rfl, hK, hC⟩ := hv0.elem k hlt
      obtain ⟨b', off', c', rfl, hK', hC'⟩ := hv0'.elem k hlt
      obtain ⟨rfl, -⟩ := hK
      obtain ⟨rfl, -⟩ := hK'
      rw [show kI.sz = 1 from rfl, Nat.mul_one] at hC
      rw [show kI.sz = 1 from rfl, Nat.mul_one] at hC'
      generalize xs[k] = x at *
      go_wp2_with fail
      refine wp_draw_ob (k := 9) (sz := 26) mixed (by simp) rfl (by kernel_rfl) (by kernel_rfl) H (by simp only [List.take_succ_cons, List.take_zero]; exact rfl) (by simp only [List.drop_succ_cons, List.drop_zero]; exact rfl)
        (fun y => by simp only [ov, Act.put, List.setIfInBounds_toArray, List.set_cons_succ, List.set_cons_zero]; exact rfl) ?_
      iterate 9 (apply Ob.valw; (intro s' w' y Φ hs H hG hΦ; simp [dh, isV, dep, Region.binds] at hG; (try simp only [hG]); first
        | (refine wantN rfl ?_; exact hΦ _ _ (Sub.refl _) H)
        | (refine wantY rfl ?_; first
          | (refine G_s1 _ _ rfl (Tryd.isAgg3 _) rfl H (hC.mono hs) 0 rfl rfl ?_; exact hΦ _ _ (Sub.refl _) H)
          | (refine G_s1 _ _ rfl (Tryd.isAgg3 _) rfl H (hC'.mono hs) 0 rfl rfl ?_; exact hΦ _ _ (Sub.refl _) H)
          | (go_simp; exact hΦ _ _ (Sub.refl _) H))))
      clear H
      intro s3 w3 yy hs3 H hG
      simp [gh, isV] at hG
      simp only [hG]
      clear hG
      go_wp2
      go_roundw
      case rel => exact ⟨k + 1, by omega, by go_num, H.forget hs3⟩
      case measure => simp [intOf]; omega
    · go_wp2
      go_ret
      exact ⟨rfl, H⟩
set_option maxHeartbeats 4000000 in
theorem sameOp {E : World} {s : SH} {L : List HP} {w : World} {v v' : Value} (x : Op') (hv : kI.Sl s v x.list) (hv' : kI.Sl s v' x.list) (H : Holds E s L w) :
    Calls Tryd.prog 124 #[.agg #[.int .i64 x.kind, .string x.key, .int .i64 x.value, v, .bool x.has, .bool x.isNil], .agg #[.int .i64 x.kind, .string x.key, .int .i64 x.value, v', .bool x.has, .bool x.isNil]] w fun e w' => e = .returned (.bool true) ∧ Holds E s L w' := by
  have hE := fun (L : List HP) (w : World) (H : Holds E s L w) => eqInts hv hv' H
  have HE := Lib.hid hE
  clear hE hv hv'
  go_enter Tryd.func124, Tryd.ntmps124
  go_wp2_with (first
    | ((with_reducible refine OpG.list rfl ?_); first
      | (refine G_box 108 _ rfl (v := Value.agg #[.int .i64 x.kind, .string x.key, .int .i64 x.value, v, .bool x.has, .bool x.isNil]) rfl H ?_; clear H; intro b1 w1 H; simp only [Value.cells] at H; have tok := True.intro)
      | (refine G_box 108 _ rfl (v := Value.agg #[.int .i64 x.kind, .string x.key, .int .i64 x.value, v', .bool x.has, .bool x.isNil]) rfl H ?_; clear H; intro b2 w1 H; simp only [Value.cells] at H)
      | (refine G_p1i 0 _ _ rfl (Tryd.isAgg3 _) rfl H rfl rfl ?_)
      | (refine G_p1i 1 _ _ rfl (Tryd.isAgg3 _) rfl H rfl rfl ?_)
      | (refine G_p1i 0 _ _ rfl (Tryd.isAgg9 _) rfl H rfl rfl ?_)
      | (refine G_p1i 1 _ _ rfl (Tryd.isAgg9 _) rfl H rfl rfl ?_)
      | (refine G_p1i 0 _ _ rfl (Tryd.isAgg4 _) rfl H rfl rfl ?_)
      | (refine G_p1i 1 _ _ rfl (Tryd.isAgg4 _) rfl H rfl rfl ?_)
      | (refine G_p1i 0 _ _ rfl (Tryd.isAgg27 _) rfl H rfl rfl ?_)
      | (refine G_p1i 1 _ _ rfl (Tryd.isAgg27 _) rfl H rfl rfl ?_))
    | (refine OpG.listW rfl ?_; first
      | (refine G_p1i 0 _ _ rfl (Tryd.isAgg3 _) rfl H rfl rfl ?_)
      | (refine G_p1i 1 _ _ rfl (Tryd.isAgg3 _) rfl H rfl rfl ?_)
      | (refine G_p1i 0 _ _ rfl (Tryd.isAgg9 _) rfl H rfl rfl ?_)
      | (refine G_p1i 1 _ _ rfl (Tryd.isAgg9 _) rfl H rfl rfl ?_)
      | (refine G_p1i 0 _ _ rfl (Tryd.isAgg4 _) rfl H rfl rfl ?_)
      | (refine G_p1i 1 _ _ rfl (Tryd.isAgg4 _) rfl H rfl rfl ?_)
      | (refine G_p1i 0 _ _ rfl (Tryd.isAgg27 _) rfl H rfl rfl ?_)
      | (refine G_p1i 1 _ _ rfl (Tryd.isAgg27 _) rfl H rfl rfl ?_))
    | (go_at_call 23; refine (HE.out _ _ H).mono ?_; clear H; rintro e w1 ⟨rfl, H⟩))
  go_ret
  exact ⟨rfl, H.drop.drop⟩
set_option maxHeartbeats 4000000 in
theorem eqOps {E : World} {s : SH} {L : List HP} {w : World} {v v' : Value} {xs : List Op'} (hv : kOp.Sl s v xs) (hv' : kOp.Sl s v' xs) (H : Holds E s L w) :
    Calls Tryd.prog 123 #[v, v', .func (.func 124) #[] #[]] w fun e w' => e = .returned (.bool true) ∧ Holds E s L w' := by
  have hv0 := hv
  have hv0' := hv'
  obtain ⟨A, cap, rfl, h1, h2, -⟩ := hv
  obtain ⟨A', cap', rfl, h1', h2', -⟩ := hv'
  have hb : xs.length ≤ 140737488355328 := by have h : xs.length * 64 ≤ 140737488355328 := h2; omega
  clear h2 h2'
  go_enter Tryd.func123, Tryd.ntmps123
  go_wp2
  go_loopw [17] (fun i wr => ∃ k : Nat, k ≤ xs.length ∧ i = .int .i64 k ∧ Holds E s L wr) (fun i _ => xs.length - (intOf i).toNat)
  case atStart => exact ⟨0, Nat.zero_le _, rfl, H⟩
  case round =>
    clear H
    obtain ⟨k, hk, rfl, H⟩ := hrel
    by_cases hlt : k < xs.length
    · obtain ⟨b, off, c, rfl, hK, hC⟩ := hv0.elem k hlt
      obtain ⟨b', off', c', rfl, hK', hC'⟩ := hv0'.elem k hlt
      obtain ⟨vl, rfl, hl, -, -, -⟩ := kOp_open hK
      obtain ⟨vl', rfl, hl', -, -, -⟩ := kOp_open hK'
      have hcall := fun (L : List HP) (w : World) (H : Holds E s L w) => sameOp xs[k] hl hl' H
      have hC : Cells s ⟨b, off + k * 6, none⟩ _ := hC
      have hC' : Cells s ⟨b', off' + k * 6, none⟩ _ := hC'
      generalize xs[k] = x at *
      have HC1 := Lib.hid hcall
      clear hcall
      go_wp2_with (first
        | ((with_reducible refine OpG.list rfl ?_); first
          | (refine G_sN _ _ rfl (Tryd.isAgg108 _) rfl H hC (Tryd.sizeOf108 _) ?_)
          | (refine G_sN _ _ rfl (Tryd.isAgg108 _) rfl H hC' (Tryd.sizeOf108 _) ?_)
          | (refine G_alloc 108 rfl (Tryd.zeroValue108 _) H ?_; clear H; intro g w1 H)
          | (refine G_setN _ _ _ rfl (Tryd.sizeOf108 _) rfl rfl (kOp.one hK) H rfl ?_; clear H; intro w1 H)
          | (refine G_setN _ _ _ rfl (Tryd.sizeOf108 _) rfl rfl (kOp.one hK') H rfl ?_; clear H; intro w1 H)
          | (refine G_pNi 0 _ _ rfl (Tryd.isAgg108 _) rfl H rfl (Tryd.sizeOf108 _) ?_)
          | (refine G_pNi 1 _ _ rfl (Tryd.isAgg108 _) rfl H rfl (Tryd.sizeOf108 _) ?_))
        | (refine (HC1.out _ _ H).mono ?_; clear H; rintro e w2 ⟨rfl, H⟩))
      go_roundw
      case rel => exact ⟨k + 1, by omega, by go_num, H.drop.drop⟩
      case measure => simp [intOf]; omega
    · go_wp2
      go_ret
      exact ⟨rfl, H⟩
set_option maxHeartbeats 400000 in
theorem sameOps_spec {E : World} {s : SH} {L : List HP} {w : World} {v v' : Value} {xs : List Op'} (hv : kOp.Sl s v xs) (hv' : kOp.Sl s v' xs) (H : Holds E s L w) :
    Calls Tryd.prog 77 #[v, v'] w fun e w' => e = .returned (.bool true) ∧ Holds E s L w' := by
  go_enter Tryd.func77, Tryd.ntmps77
  go_wp2_with (go_at_call 123; refine (eqOps hv hv' H).mono ?_; clear H; rintro e w1 ⟨rfl, H⟩)
  go_ret
  exact ⟨rfl, H⟩
end Go.Proofs.YtemdmpgekegfhaaDoor
