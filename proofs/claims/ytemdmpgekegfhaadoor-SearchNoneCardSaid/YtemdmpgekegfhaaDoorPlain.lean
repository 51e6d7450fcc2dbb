/- What the package of plain helpers does: copies. -/
import Derived.Test.YtemdmpgekegfhaaDoorData
namespace Go.Proofs.YtemdmpgekegfhaaDoor
open Go.RowKit
set_option linter.all false
set_option maxRecDepth 10000

theorem rowM_sh_kI (s : SH) : ∀ (xs : List Int) (cs : List Value) (h : SH), (kI.sh s).RowM xs cs h ↔ kI.RowM xs cs h
  | [], cs, h => Iff.rfl
  | x :: xs, cs, h => by
    constructor
    · rintro ⟨c, r, e, k⟩; exact ⟨c, r, e, star_mono (fun _ a => a) (fun h k => (rowM_sh_kI s xs r h).1 k) k⟩
    · rintro ⟨c, r, e, k⟩; exact ⟨c, r, e, star_mono (fun _ a => a) (fun h k => (rowM_sh_kI s xs r h).2 k) k⟩
theorem osl_sh_kI (s : SH) (v : Value) (xs : List Int) (h : SH) : (kI.sh s).Osl v xs h ↔ kI.Osl v xs h := by
  constructor
  · rintro (k | ⟨b, cap, cur, p, k⟩)
    · exact .inl k
    · exact .inr ⟨b, cap, cur, p, star_mono (fun _ a => a) (fun h k => (rowM_sh_kI s _ _ h).1 k) k⟩
  · rintro (k | ⟨b, cap, cur, p, k⟩)
    · exact .inl k
    · exact .inr ⟨b, cap, cur, p, star_mono (fun _ a => a) (fun h k => (rowM_sh_kI s _ _ h).2 k) k⟩

@[go_sem] theorem eqnil_I (w : World) (a : Option Addr) (n c : Nat) : (binOp .eql 27 (.slice a n c) (.slice none 0 0)).run Tryd.prog w = .ok (.bool a.isNone) w := Lib.run_eql_slice_nil w _ _ a n c 0 0 Tryd.underlying27

set_option maxHeartbeats 400000 in
theorem cloneI_spec {E : World} {s : SH} {L : List HP} {w : World} {v : Value} {xs : List Int} (H : Holds E s L w) (hv : kI.Sl s v xs) :
    Calls Tryd.prog 55 #[v] w fun e w' => ∃ v', e = .returned v' ∧ Holds E s (kI.Osl v' xs :: L) w' := by
  have hv0 := hv
  obtain ⟨A, cap, rfl, h1, h2, h3⟩ := hv
  cases A with
  | none =>
    have : xs = [] := Classical.byContradiction fun hx => by obtain ⟨b, off, cur, e, fr, k, _⟩ := h3 hx; cases k
    subst this
    go_enter Tryd.func55, Tryd.ntmps55
    go_wp2
    go_ret
    exact ⟨_, rfl, Kin.Osl.nil H⟩
  | some ad =>
    go_enter Tryd.func55, Tryd.ntmps55
    go_wp2_with (first | ((with_reducible refine OpG.list rfl ?_); refine G_slice0 (d := kI) rfl Tryd.underlying27 Tryd.sizeOf3 H ?_; intro v1 w1 H1) | ((with_reducible refine OpG.list rfl ?_); refine G_appendS kI_at _ _ rfl (H1.map fun h k => (osl_sh_kI s _ _ h).2 k) hv0 rfl rfl (by simpa using h2) ?_; intro v2 w2 H2; simp only [List.nil_append] at H2))
    go_ret
    exact ⟨_, rfl, H2.map fun h k => (osl_sh_kI s _ _ h).1 k⟩

set_option maxHeartbeats 1000000 in
theorem ops_spec {E : World} {s : SH} {L : List HP} {w : World} {v : Value} {xs : List Op'} (H : Holds E s L w) (hv : kOp.Sl s v xs) :
    Calls Tryd.prog 68 #[v] w fun e w' => ∃ v', e = .returned v' ∧ Holds E s (kOp.Osl v' xs :: L) w' := by
  have hv0 := hv
  obtain ⟨A, cap, rfl, h1, h2, -⟩ := hv
  have h2' : xs.length * 64 ≤ 140737488355328 := h2
  clear h2
  have hnil := Kin.Osl.nil (d := kOp) H
  go_enter Tryd.func68, Tryd.ntmps68
  go_wp2
  go_loopw [3, 5, 8] (fun out _ i wr => ∃ k : Nat, k ≤ xs.length ∧ i = .int .i64 k ∧ Holds E s (kOp.Osl out (xs.take k) :: L) wr) (fun _ _ i _ => xs.length - (intOf i).toNat)
  case atStart => exact ⟨0, Nat.zero_le _, rfl, by simpa using hnil⟩
  case round =>
    obtain ⟨k, hk, rfl, H⟩ := hrel
    by_cases hlt : k < xs.length
    · obtain ⟨b, off, c, rfl, hK, hC⟩ := hv0.elem k hlt
      obtain ⟨v3, rfl, hsl, hr1, hr2, hr3⟩ := kOp_open hK
      have hC : Cells s ⟨b, off + k * 6, none⟩ _ := hC
      go_wp2_with (first
        | ((with_reducible refine OpG.list rfl ?_); first
          | (refine G_sN _ _ rfl (Tryd.isAgg108 _) rfl H hC (Tryd.sizeOf108 _) ?_)
          | (refine G_alloc 108 rfl (Tryd.zeroValue108 _) H ?_; intro g w1 H)
          | (refine G_setN _ _ _ rfl (Tryd.sizeOf108 _) rfl rfl (kOp.one hK) H rfl ?_; intro w1 H)
          | (refine G_p1 _ _ rfl (Tryd.isAgg27 _) rfl H rfl ?_)
          | (refine G_set1 (v := Value.slice A4 _ c4) _ _ _ rfl (Tryd.sizeOf27 _) rfl rfl rfl H.swap (by simp) ?_; intro w1 H; simp only [List.setIfInBounds_toArray, List.set_cons_succ, List.set_cons_zero] at H)
          | (refine G_pN _ _ rfl (Tryd.isAgg108 _) rfl H (Tryd.sizeOf108 _) ?_)
          | (refine G_slice1 (v := Value.agg _) rfl rfl Tryd.underlying71 Tryd.sizeOf108 Tryd.zeroValue108 rfl rfl (by decide) (by decide) H ?_; intro g2 w1 H; replace H := (kOp_mkM (x := xs[k]) H.swap.drop.swap hr1 hr2 hr3).rot3)
          | (refine G_append1 kOp_at _ _ rfl H rfl rfl ?_ ?_; (case refine_1 => rw [List.length_take, Nat.min_eq_left hk]; show (k + 1) * 64 ≤ _; omega); intro v5 w1 H))
        | (go_at_call 55; refine (cloneI_spec H hsl).mono ?_; rintro e w1 ⟨v4, rfl, H⟩; obtain ⟨A4, c4, hv4, -⟩ := H.len; subst hv4))
      go_roundw
      case rel => exact ⟨k + 1, by omega, by go_num, by rw [List.take_succ_eq_append_getElem hlt]; exact H⟩
      case measure => simp [intOf]; omega
    · go_wp2
      go_ret
      obtain rfl : k = xs.length := by omega
      exact ⟨_, rfl, by simpa using H⟩
end Go.Proofs.YtemdmpgekegfhaaDoor
