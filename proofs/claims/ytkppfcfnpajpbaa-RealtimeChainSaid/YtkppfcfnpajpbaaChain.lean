/- RealtimeChain, walked. -/
import Derived.Test.YtkppfcfnpajpbaaChainP
import Derived.Test.YtkppfcfnpajpbaaRight
import Derived.Test.YtkppfcfnpajpbaaEqPair
namespace Go.Proofs.Ytkppfcfnpajpbaa
open Go.RowKit
set_option linter.all false

theorem chain_snoc (k : Nat) : chain k ++ [chainT k] = chain (k + 1) := by
  unfold chain; rw [List.range_succ, List.map_append]; rfl
set_option maxHeartbeats 8000000 in
theorem chain_spec {E : World} {s : SH} {L : List HP} {w : World} (H : Holds E s L w) (n0 : Int) :
    Calls Try.prog 4 #[.int .i64 n0] w fun e w' => e = .returned (.bool true) ∧ ∃ s', Sub s s' ∧ Holds E s' L w' := by
  obtain ⟨N, hN⟩ : ∃ N, wrap64 ((IntKind.u64.wrap n0).tmod 40) = N := ⟨_, rfl⟩
  obtain ⟨hN0, hN1⟩ := u64_mod n0 40 (by omega) (by omega)
  rw [hN] at hN0 hN1
  obtain ⟨m, rfl⟩ : ∃ m : Nat, N = m := ⟨N.toNat, by omega⟩
  have hm : m < 40 := by omega
  clear hN0 hN1
  have hnil := Kin.Osl.nil (d := kT) H
  clear H
  go_enter Try.func4, Try.ntmps4
  go_wp2
  simp only [hN]
  clear hN
  go_loopw [3, 14] (fun out i wr => ∃ k : Nat, k ≤ m ∧ i = .int .i64 k ∧ Holds E s (kT.Osl out (chain k) :: L) wr) (fun _ i _ => m - (intOf i).toNat)
  case atStart => exact ⟨0, Nat.zero_le _, rfl, hnil⟩
  case round =>
    clear hnil
    obtain ⟨k, hk, rfl, H⟩ := hrel
    by_cases hlt : k < m
    · go_wp2_with (first
        | ((with_reducible refine OpG.list rfl ?_); first
          | (refine G_slice1 (v := Value.agg _) rfl rfl Try.underlying22 Try.sizeOf26 Try.zeroValue26 rfl rfl (by decide) (by decide) H ?_; clear H; intro g2 w4 H; replace H := (kT_mkM (x := chainT k) (Kin.Osl.nil (d := kOp) H) (by constructor <;> simp [chainT]) (by constructor <;> simp [chainT]) (by constructor <;> simp only [chainT] <;> omega) (by constructor <;> simp only [chainT] <;> omega)).rot3)
          | (refine G_append1 kT_at _ _ rfl H rfl rfl ?_ ?_; (case refine_1 => show (_ + 1) * 56 ≤ _; rw [chain_len]; omega); clear H; intro v5 w5 H; rw [chain_snoc] at H)))
      go_roundw
      case rel => exact ⟨k + 1, by omega, by go_num, H⟩
      case measure => simp [intOf]; omega
    · obtain rfl : k = m := by omega
      clear hlt hk
      obtain ⟨s1, hs1, H0, hv⟩ := Kin.Osl.fr H
      clear H
      have hlen : (chain k).length ≤ 1000 := by rw [chain_len]; omega
      have hF := fun (w : World) (H : Holds E s1 L w) => full_spec H hv hlen
      have HF := Lib.hid hF
      have hS := fun (s' : SH) (w : World) (L : List HP) (h : Sub s1 s') (H : Holds E s' L w) => sparse_ok H (hv.mono h) hlen
      have HS := Lib.hid hS
      clear hF hS hlen hv
      go_wp2_with (first
        | (go_at_call 11; refine (HF.out _ H0).mono ?_; clear H0; rintro e w1 ⟨v1, s2, rfl, hs2, H1⟩)
        | (go_at_call 12; refine (HS.out _ _ _ hs2 H1).mono ?_; clear H1; rintro e w2 ⟨v2, s3, rfl, hs3, H2⟩; obtain ⟨s4, hs4, H3, hv2⟩ := Kin.Osl.fr H2; obtain ⟨A1, cap1, e1, -, -, -⟩ := H3.len; subst e1; obtain ⟨A2, cap2, e2, -, -, -⟩ := id hv2; subst e2; clear H2))
      have hls : (sparse (chain k)).length = k - 1 := by rw [chain_sparse]; simp
      have hlf := chain_full k
      rw [hls]
      generalize (full (chain k)).length = F at *
      obtain ⟨P, hP⟩ : ∃ P : Int, P = (k : Int) * ((k : Int) - 1) := ⟨_, rfl⟩
      rw [← hP] at hlf
      have hPb : 0 ≤ P ∧ P ≤ 1600 := by
        rw [hP]
        cases k with
        | zero => decide
        | succ j =>
          have h2 : ((j + 1) * j : Nat) ≤ 40 * 40 := Nat.mul_le_mul (by omega) (by omega)
          have h3 : ((j + 1 : Nat) : Int) * (((j + 1 : Nat) : Int) - 1) = (((j + 1) * j : Nat) : Int) := by
            rw [Int.natCast_mul]; congr 1; omega
          rw [h3]; omega
      have HPQ := Lib.hid hP
      have HLF := Lib.hid hlf
      have HPB := Lib.hid hPb
      have HLS := Lib.hid hls
      have H := H3.drop
      clear H3
      rw [hls] at hv2
      clear hP hlf hPb hls
      go_loopw [33] (fun i wr => ∃ j : Nat, j ≤ k - 1 ∧ i = .int .i64 j ∧ Holds E s4 L wr) (fun i _ => (k - 1) - (intOf i).toNat)
      case atStart => exact ⟨0, Nat.zero_le _, rfl, H⟩
      case round =>
        clear H
        obtain ⟨j, hj, rfl, H⟩ := hrel
        by_cases hltj : j < k - 1
        · have hj' : j < (sparse (chain k)).length := by rw [HLS.out]; exact hltj
          obtain ⟨b, off, c, rfl, hK, hC⟩ := hv2.elem j hj'
          have hx : (sparse (chain k))[j] = ((j : Int), (j : Int) + 1) := by simp [chain_sparse]
          rw [hx] at hK
          obtain ⟨rfl, -, -⟩ := kPr_open (id hK)
          simp only [] at hC
          have hC : Cells s4 ⟨b, off + j * 2, none⟩ _ := hC
          clear hx hj'
          go_wp2_with (first
            | ((with_reducible refine OpG.list rfl ?_); first
              | (refine G_sN _ _ rfl (Try.isAgg32 _) rfl H hC (Try.sizeOf32 _) ?_)
              | (refine G_alloc 32 rfl (Try.zeroValue32 _) H ?_; clear H; intro g w1 H)
              | (refine G_setN _ _ _ rfl (Try.sizeOf32 _) rfl rfl (kPr.one hK) H rfl ?_; clear H; intro w1 H)
              | (refine G_pNi 0 _ _ rfl (Try.isAgg32 _) rfl H rfl (Try.sizeOf32 _) ?_)))
          go_roundw
          case rel => exact ⟨j + 1, by omega, by go_num, H.drop⟩
          case measure => simp [intOf]; omega
        · have hend : ((F : Int) == wrap64 ((wrap64 ((k : Int) * ((k : Int) - 1))).tdiv 2)) = true := by
            have h1 := HPB.out
            rw [← HPQ.out]
            have h2 : wrap64 P = P := by unfold wrap64; omega
            rw [h2, Int.tdiv_eq_ediv_of_nonneg h1.1]
            have h3 : wrap64 (P / 2) = P / 2 := by unfold wrap64; omega
            rw [h3, ← HLF.out]; simp
          have HE := Lib.hid hend
          clear hend
          go_wp2
          all_goals (go_ret; exact ⟨by rw [HE.out]; rfl, s4, hs1.trans (hs2.trans (hs3.trans hs4)), H⟩)
end Go.Proofs.Ytkppfcfnpajpbaa
