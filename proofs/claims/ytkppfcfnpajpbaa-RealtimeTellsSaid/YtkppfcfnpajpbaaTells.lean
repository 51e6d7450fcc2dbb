/- RealtimeTells, walked. -/
import Derived.Test.YtkppfcfnpajpbaaRefSparse
import Derived.Test.YtkppfcfnpajpbaaSamePr
import Derived.Test.YtkppfcfnpajpbaaSameT
import Derived.Test.YtkppfcfnpajpbaaSmallS
import Derived.Test.YtkppfcfnpajpbaaApartP
namespace Go.Proofs.Ytkppfcfnpajpbaa
open Go.RowKit
set_option linter.all false

set_option maxHeartbeats 8000000 in
theorem tells_spec {E : World} {s : SH} {L : List HP} {w : World} {v : Value} {ys : List Txn} (H : Holds E s L w) (hv : kT.Sl s v ys) :
    Calls Try.prog 6 #[v] w fun e w' => e = .returned (.bool true) ∧ ∃ s', Sub s s' ∧ Holds E s' L w' := by
  have hlen := small_len ys
  have hsm : ∀ (w : World), Holds E s L w → Calls Try.prog 8 #[v] w fun e w' => ∃ v' s', e = .returned v' ∧ Sub s s' ∧ Holds E s' L w' ∧ kT.Sl s' v' (small ys) := fun w H => small_s H hv
  generalize small ys = xs at *
  have hn : xs.length ≤ 1000 := by omega
  have HM := Lib.hid hsm
  have HN := Lib.hid hn
  clear hsm hn
  go_enter Try.func6, Try.ntmps6
  go_wp2_with (first
    | (go_at_call 8; refine (HM.out _ H).mono ?_; rintro e w1 ⟨v1, s1, rfl, hs1, H1, hv1⟩; clear H; obtain ⟨A1, cap1, e1, -, -, -⟩ := id hv1; subst e1)
    | (go_at_call 14; refine (txns_spec H1 hv1).mono ?_; rintro e w2 ⟨v2, rfl, H2⟩; clear H1; obtain ⟨s2, hs2, H3, hv2⟩ := Kin.Osl.fr H2; clear H2; obtain ⟨A2, cap2, e2, -, -, -⟩ := id hv2; subst e2))
  have hv3 := hv1.mono hs2
  clear hv hv1
  go_loopw [14] (fun i wr => ∃ s' : SH, Sub s2 s' ∧ ∃ k : Nat, k ≤ xs.length ∧ i = .int .i64 k ∧ Holds E s' L wr) (fun i _ => xs.length - (intOf i).toNat)
  case atStart => exact ⟨s2, Sub.refl _, 0, Nat.zero_le _, rfl, H3⟩
  case round =>
    clear H3
    obtain ⟨s3, hs3, i, hi, rfl, H⟩ := hrel
    by_cases hlt : i < xs.length
    · obtain ⟨b, off, c, rfl, hK, hC⟩ := (hv3.mono hs3).elem i hlt
      obtain ⟨vx, rfl, -, -, -, -, -⟩ := kT_open hK
      have hC : Cells s3 ⟨b, off + i * 5, none⟩ _ := hC
      generalize xs[i] = x at *
      go_wp2_with (first
        | ((with_reducible refine OpG.list rfl ?_); first
          | (refine G_sN _ _ rfl (Try.isAgg26 _) rfl H hC (Try.sizeOf26 _) ?_)
          | (refine G_alloc 26 rfl (Try.zeroValue26 _) H ?_; clear H; intro g w1 H)
          | (refine G_setN _ _ _ rfl (Try.sizeOf26 _) rfl rfl (kT.one hK) H rfl ?_; clear H; intro w1 H)))
      go_loopw [20] (fun j wr => ∃ s' : SH, Sub s3 s' ∧ ∃ k : Nat, k ≤ xs.length ∧ j = .int .i64 k ∧ Holds E s' (pt g (.cells (tcells x.proc x.state x.from_ x.to vx).toArray 26 (0, 0)) :: L) wr) (fun j _ => xs.length - (intOf j).toNat)
      case atStart => exact ⟨s3, Sub.refl _, 0, Nat.zero_le _, rfl, H⟩
      case round =>
        clear H
        obtain ⟨s4, hs4, k, hk, rfl, H⟩ := hrel
        by_cases hltk : k < xs.length
        · obtain ⟨b', off', c', he, hK', hC'⟩ := (hv3.mono (hs3.trans hs4)).elem k hltk
          cases he
          obtain ⟨vy, rfl, -, -, -, -, -⟩ := kT_open hK'
          have hC' : Cells s4 ⟨b, off + k * 5, none⟩ _ := hC'
          generalize xs[k] = y at *
          go_wp2_with (first
            | ((with_reducible refine OpG.list rfl ?_); first
              | (refine G_sN _ _ rfl (Try.isAgg26 _) rfl H hC' (Try.sizeOf26 _) ?_)
              | (refine G_alloc 26 rfl (Try.zeroValue26 _) H ?_; clear H; intro g' w1 H)
              | (refine G_setN _ _ _ rfl (Try.sizeOf26 _) rfl rfl (kT.one hK') H rfl ?_; clear H; intro w1 H)))
          refine wp_draw_ob (k := 7) (sz := 50) mixed (by simp) rfl (by kernel_rfl) (by kernel_rfl) H (by simp only [List.take_succ_cons, List.take_zero]; exact rfl) (by simp only [List.drop_succ_cons, List.drop_zero]; exact rfl)
            (fun y => by simp only [ov, Act.put, List.setIfInBounds_toArray, List.set_cons_succ, List.set_cons_zero]; exact rfl) ?_
          iterate 7 (apply Ob.valw; (intro s' w' y Φ hs H hG hΦ; simp [dh, isV, dep, Region.binds] at hG; (try simp only [hG]); first
            | (refine wantN rfl ?_; exact hΦ _ _ (Sub.refl _) H)
            | (refine wantY rfl ?_; first
              | (refine G_pNi 0 _ _ rfl (Try.isAgg26 _) rfl H rfl (Try.sizeOf26 _) ?_; exact hΦ _ _ (Sub.refl _) H)
              | (refine G_pNi 1 _ _ rfl (Try.isAgg26 _) rfl H rfl (Try.sizeOf26 _) ?_; exact hΦ _ _ (Sub.refl _) H)
              | (go_simp; first | (exact hΦ _ _ (Sub.refl _) H) | (refine (before_spec _ _ _ _ _ _ _ _ _ _ H).mono ?_; rintro e w1 ⟨rfl, H1⟩; exact ⟨_, rfl, hΦ _ _ (Sub.refl _) H1⟩) | (refine (refBefore_spec _ _ _ _ _ _ _ _ _ _ H).mono ?_; rintro e w1 ⟨rfl, H1⟩; exact ⟨_, rfl, hΦ _ _ (Sub.refl _) H1⟩)))))
          clear H
          intro s5 w5 yy hs5 H hG
          simp [gh, isV] at hG
          simp only [hG]
          clear hG
          go_wp2
          go_roundw
          case rel => exact ⟨s5, hs4.trans hs5, k + 1, by omega, by go_num, H.drop⟩
          case measure => simp [intOf]; omega
        · go_wp2
          go_roundw
          case rel => exact ⟨s4, hs3.trans hs4, i + 1, by omega, by go_num, H.drop⟩
          case measure => simp [intOf]; omega
    · have hw1 := hv3.mono hs3
      have hw2 := hv2.mono hs3
      have HW1 := Lib.hid hw1
      have HW2 := Lib.hid hw2
      clear hw1 hw2
      go_wp2_with (first
        | (go_at_call 11; refine (full_spec H HW2.out HN.out).mono ?_; clear H; rintro e w4 ⟨v4, s4, rfl, hs4, H4⟩; obtain ⟨s5, hs5, H5, hv5⟩ := Kin.Osl.fr H4; clear H4)
        | (go_at_call 13; refine (refFull_spec H5 (HW1.out.mono (hs4.trans hs5)) HN.out).mono ?_; rintro e w6 ⟨v6, rfl, H6⟩; clear H5; obtain ⟨s7, hs7, H7, hv7⟩ := Kin.Osl.fr H6; clear H6)
        | (go_at_call 16; first
          | (refine (eqPrs (hv5.mono hs7) hv7 H7).mono ?_; rintro e w8 ⟨rfl, H8⟩; clear H7)
          | (refine (eqPrs (hv10.mono hs12) hv12 H12).mono ?_; rintro e w13 ⟨rfl, H13⟩; clear H12))
        | (go_at_call 12; refine (sparse_ok H8 (HW2.out.mono (hs4.trans (hs5.trans hs7))) HN.out).mono ?_; rintro e w9 ⟨v9, s9, rfl, hs9, H9⟩; clear H8; obtain ⟨s10, hs10, H10, hv10⟩ := Kin.Osl.fr H9; clear H9)
        | (go_at_call 17; refine (refSparse_spec H10 (HW1.out.mono (hs4.trans (hs5.trans (hs7.trans (hs9.trans hs10))))) HN.out).mono ?_; rintro e w11 ⟨v11, rfl, H11⟩; clear H10; obtain ⟨s12, hs12, H12, hv12⟩ := Kin.Osl.fr H11; clear H11)
        | (go_at_call 18; refine (sameTxns_spec (HW2.out.mono (hs4.trans (hs5.trans (hs7.trans (hs9.trans (hs10.trans hs12)))))) (HW1.out.mono (hs4.trans (hs5.trans (hs7.trans (hs9.trans (hs10.trans hs12)))))) H13).mono ?_; rintro e w14 ⟨rfl, H14⟩; clear H13))
      go_ret
      exact ⟨rfl, s12, hs1.trans (hs2.trans (hs3.trans (hs4.trans (hs5.trans (hs7.trans (hs9.trans (hs10.trans hs12))))))), H14⟩
end Go.Proofs.Ytkppfcfnpajpbaa
