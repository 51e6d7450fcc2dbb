/- Transactions that read alike are told to be the same. -/
import Derived.Test.YtkppfcfnpajpbaaSame
namespace Go.Proofs.Ytkppfcfnpajpbaa
open Go.RowKit
set_option linter.all false

set_option maxHeartbeats 4000000 in
theorem sameTxn {E : World} {s : SH} {L : List HP} {w : World} {v v' : Value} (x : Txn) (hv : kOp.Sl s v x.ops) (hv' : kOp.Sl s v' x.ops) (H : Holds E s L w) :
    Calls Try.prog 31 #[.agg #[.int .i64 x.proc, .int .i64 x.state, .int .i64 x.from_, .int .i64 x.to, v], .agg #[.int .i64 x.proc, .int .i64 x.state, .int .i64 x.from_, .int .i64 x.to, v']] w fun e w' => e = .returned (.bool true) ∧ Holds E s L w' := by
  have hE := fun (L : List HP) (w : World) (H : Holds E s L w) => sameOps_spec hv hv' H
  have HE := Lib.hid hE
  clear hE hv hv'
  go_enter Try.func31, Try.ntmps31
  go_wp2_with (first
    | ((with_reducible refine OpG.list rfl ?_); first
      | (refine G_box 26 _ rfl (v := Value.agg #[.int .i64 x.proc, .int .i64 x.state, .int .i64 x.from_, .int .i64 x.to, v]) rfl H ?_; clear H; intro b1 w1 H; simp only [Value.cells] at H; have tok := True.intro)
      | (refine G_box 26 _ rfl (v := Value.agg #[.int .i64 x.proc, .int .i64 x.state, .int .i64 x.from_, .int .i64 x.to, v']) rfl H ?_; clear H; intro b2 w1 H; simp only [Value.cells] at H)
      | (refine G_p1i 0 _ _ rfl (Try.isAgg3 _) rfl H rfl rfl ?_)
      | (refine G_p1i 1 _ _ rfl (Try.isAgg3 _) rfl H rfl rfl ?_)
      | (refine G_p1i 0 _ _ rfl (Try.isAgg24 _) rfl H rfl rfl ?_)
      | (refine G_p1i 1 _ _ rfl (Try.isAgg24 _) rfl H rfl rfl ?_))
    | (refine OpG.listW rfl ?_; first
      | (refine G_p1i 0 _ _ rfl (Try.isAgg3 _) rfl H rfl rfl ?_)
      | (refine G_p1i 1 _ _ rfl (Try.isAgg3 _) rfl H rfl rfl ?_)
      | (refine G_p1i 0 _ _ rfl (Try.isAgg24 _) rfl H rfl rfl ?_)
      | (refine G_p1i 1 _ _ rfl (Try.isAgg24 _) rfl H rfl rfl ?_))
    | (go_at_call 37; refine (HE.out _ _ H).mono ?_; clear H; rintro e w1 ⟨rfl, H⟩))
  go_ret
  exact ⟨rfl, H.drop.drop⟩
set_option maxHeartbeats 4000000 in
theorem eqTxns {E : World} {s : SH} {L : List HP} {w : World} {v v' : Value} {xs : List Txn} (hv : kT.Sl s v xs) (hv' : kT.Sl s v' xs) (H : Holds E s L w) :
    Calls Try.prog 30 #[v, v', .func (.func 31) #[] #[]] w fun e w' => e = .returned (.bool true) ∧ Holds E s L w' := by
  have hv0 := hv
  have hv0' := hv'
  obtain ⟨A, cap, rfl, h1, h2, -⟩ := hv
  obtain ⟨A', cap', rfl, h1', h2', -⟩ := hv'
  have hb : xs.length ≤ 140737488355328 := by have h : xs.length * 56 ≤ 140737488355328 := h2; omega
  clear h2 h2'
  go_enter Try.func30, Try.ntmps30
  go_wp2
  go_loopw [17] (fun i wr => ∃ k : Nat, k ≤ xs.length ∧ i = .int .i64 k ∧ Holds E s L wr) (fun i _ => xs.length - (intOf i).toNat)
  case atStart => exact ⟨0, Nat.zero_le _, rfl, H⟩
  case round =>
    clear H
    obtain ⟨k, hk, rfl, H⟩ := hrel
    by_cases hlt : k < xs.length
    · obtain ⟨b, off, c, rfl, hK, hC⟩ := hv0.elem k hlt
      obtain ⟨b', off', c', rfl, hK', hC'⟩ := hv0'.elem k hlt
      obtain ⟨vl, rfl, hl, -, -, -, -⟩ := kT_open hK
      obtain ⟨vl', rfl, hl', -, -, -, -⟩ := kT_open hK'
      have hcall := fun (L : List HP) (w : World) (H : Holds E s L w) => sameTxn xs[k] hl hl' H
      have hC : Cells s ⟨b, off + k * 5, none⟩ _ := hC
      have hC' : Cells s ⟨b', off' + k * 5, none⟩ _ := hC'
      generalize xs[k] = x at *
      have HC1 := Lib.hid hcall
      clear hcall
      go_wp2_with (first
        | ((with_reducible refine OpG.list rfl ?_); first
          | (refine G_sN _ _ rfl (Try.isAgg26 _) rfl H hC (Try.sizeOf26 _) ?_)
          | (refine G_sN _ _ rfl (Try.isAgg26 _) rfl H hC' (Try.sizeOf26 _) ?_)
          | (refine G_alloc 26 rfl (Try.zeroValue26 _) H ?_; clear H; intro g w1 H)
          | (refine G_setN _ _ _ rfl (Try.sizeOf26 _) rfl rfl (kT.one hK) H rfl ?_; clear H; intro w1 H)
          | (refine G_setN _ _ _ rfl (Try.sizeOf26 _) rfl rfl (kT.one hK') H rfl ?_; clear H; intro w1 H)
          | (refine G_pNi 0 _ _ rfl (Try.isAgg26 _) rfl H rfl (Try.sizeOf26 _) ?_)
          | (refine G_pNi 1 _ _ rfl (Try.isAgg26 _) rfl H rfl (Try.sizeOf26 _) ?_))
        | (refine (HC1.out _ _ H).mono ?_; clear H; rintro e w2 ⟨rfl, H⟩))
      go_roundw
      case rel => exact ⟨k + 1, by omega, by go_num, H.drop.drop⟩
      case measure => simp [intOf]; omega
    · go_wp2
      go_ret
      exact ⟨rfl, H⟩
set_option maxHeartbeats 400000 in
theorem sameTxns_spec {E : World} {s : SH} {L : List HP} {w : World} {v v' : Value} {xs : List Txn} (hv : kT.Sl s v xs) (hv' : kT.Sl s v' xs) (H : Holds E s L w) :
    Calls Try.prog 18 #[v, v'] w fun e w' => e = .returned (.bool true) ∧ Holds E s L w' := by
  go_enter Try.func18, Try.ntmps18
  go_wp2_with (go_at_call 30; refine (eqTxns hv hv' H).mono ?_; clear H; rintro e w1 ⟨rfl, H⟩)
  go_ret
  exact ⟨rfl, H⟩
end Go.Proofs.Ytkppfcfnpajpbaa
