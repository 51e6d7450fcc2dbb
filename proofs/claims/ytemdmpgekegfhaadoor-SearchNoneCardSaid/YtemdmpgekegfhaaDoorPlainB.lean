/- Transactions are copied. -/
import Derived.Test.YtemdmpgekegfhaaDoorPlain
namespace Go.Proofs.YtemdmpgekegfhaaDoor
open Go.RowKit
set_option linter.all false
set_option maxRecDepth 10000

set_option maxHeartbeats 1000000 in
theorem txns_spec {E : World} {s : SH} {L : List HP} {w : World} {v : Value} {xs : List Txn} (H : Holds E s L w) (hv : kT.Sl s v xs) :
    Calls Tryd.prog 53 #[v] w fun e w' => ∃ v', e = .returned v' ∧ Holds E s (kT.Osl v' xs :: L) w' := by
  have hv0 := hv
  obtain ⟨A, cap, rfl, h1, h2, -⟩ := hv
  have h2' : xs.length * 56 ≤ 140737488355328 := h2
  clear h2
  have hnil := Kin.Osl.nil (d := kT) H
  go_enter Tryd.func53, Tryd.ntmps53
  go_wp2
  go_loopw [3, 5, 8] (fun out _ i wr => ∃ k : Nat, k ≤ xs.length ∧ i = .int .i64 k ∧ Holds E s (kT.Osl out (xs.take k) :: L) wr) (fun _ _ i _ => xs.length - (intOf i).toNat)
  case atStart => exact ⟨0, Nat.zero_le _, rfl, by simpa using hnil⟩
  case round =>
    obtain ⟨k, hk, rfl, H⟩ := hrel
    by_cases hlt : k < xs.length
    · obtain ⟨b, off, c, rfl, hK, hC⟩ := hv0.elem k hlt
      obtain ⟨v3, rfl, hsl, hr1, hr2, hr3, hr4⟩ := kT_open hK
      have hC : Cells s ⟨b, off + k * 5, none⟩ _ := hC
      go_wp2_with (first
        | ((with_reducible refine OpG.list rfl ?_); first
          | (refine G_sN _ _ rfl (Tryd.isAgg75 _) rfl H hC (Tryd.sizeOf75 _) ?_)
          | (refine G_alloc 75 rfl (Tryd.zeroValue75 _) H ?_; intro g w1 H)
          | (refine G_setN _ _ _ rfl (Tryd.sizeOf75 _) rfl rfl (kT.one hK) H rfl ?_; intro w1 H)
          | (refine G_p1 _ _ rfl (Tryd.isAgg71 _) rfl H rfl ?_)
          | (refine G_set1 (v := Value.slice A4 _ c4) _ _ _ rfl (Tryd.sizeOf71 _) rfl rfl rfl H.swap (by simp) ?_; intro w1 H; simp only [List.setIfInBounds_toArray, List.set_cons_succ, List.set_cons_zero] at H)
          | (refine G_pN _ _ rfl (Tryd.isAgg75 _) rfl H (Tryd.sizeOf75 _) ?_)
          | (refine G_slice1 (v := Value.agg _) rfl rfl Tryd.underlying57 Tryd.sizeOf75 Tryd.zeroValue75 rfl rfl (by decide) (by decide) H ?_; intro g2 w1 H; replace H := (kT_mkM (x := xs[k]) H.swap.drop.swap hr1 hr2 hr3 hr4).rot3)
          | (refine G_append1 kT_at _ _ rfl H rfl rfl ?_ ?_; (case refine_1 => rw [List.length_take, Nat.min_eq_left hk]; show (k + 1) * 56 ≤ _; omega); intro v5 w1 H))
        | (go_at_call 68; refine (ops_spec H hsl).mono ?_; rintro e w1 ⟨v4, rfl, H⟩; obtain ⟨A4, c4, hv4, -⟩ := H.len; subst hv4))
      go_roundw
      case rel => exact ⟨k + 1, by omega, by go_num, by rw [List.take_succ_eq_append_getElem hlt]; exact H⟩
      case measure => simp [intOf]; omega
    · go_wp2
      go_ret
      obtain rfl : k = xs.length := by omega
      exact ⟨_, rfl, by simpa using H⟩
end Go.Proofs.YtemdmpgekegfhaaDoor
