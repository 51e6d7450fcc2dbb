/- RealtimeApart, walked. -/
import Derived.Test.YtkppfcfnpajpbaaApartP
import Derived.Test.YtkppfcfnpajpbaaSmallS
import Derived.Test.YtkppfcfnpajpbaaEqPair
namespace Go.Proofs.Ytkppfcfnpajpbaa
open Go.RowKit
set_option linter.all false

set_option maxHeartbeats 8000000 in
theorem apart_spec {E : World} {s : SH} {L : List HP} {w : World} {v : Value} {ys : List Txn} (H : Holds E s L w) (hv : kT.Sl s v ys) :
    Calls Try.prog 5 #[v] w fun e w' => e = .returned (.bool true) ∧ ∃ s', Sub s s' ∧ Holds E s' L w' := by
  have hlen := small_len ys
  have hsm : ∀ (w : World), Holds E s L w → Calls Try.prog 8 #[v] w fun e w' => ∃ v' s', e = .returned v' ∧ Sub s s' ∧ Holds E s' L w' ∧ kT.Sl s' v' (small ys) := fun w H => small_s H hv
  generalize small ys = xs at *
  have hn : xs.length ≤ 1000 := by omega
  have hb : (full xs).length + (sparse xs).length ≤ 3200 := by
    have h1 := full_len xs
    have h2 := sparse_len xs
    have h3 : xs.length * xs.length ≤ 40 * 40 := Nat.mul_le_mul hlen hlen
    omega
  have HM := Lib.hid hsm
  have HN := Lib.hid hn
  have HB := Lib.hid hb
  clear hsm hn hb hlen
  go_enter Try.func5, Try.ntmps5
  go_wp2_with (first
    | (go_at_call 8; refine (HM.out _ H).mono ?_; rintro e w1 ⟨v1, s1, rfl, hs1, H1, hv1⟩; clear H; obtain ⟨A1, cap1, e1, -, -, -⟩ := id hv1; subst e1)
    | (go_at_call 11; refine (full_spec H1 hv1 HN.out).mono ?_; rintro e w2 ⟨v2, s2, rfl, hs2, H2⟩; clear H1)
    | (go_at_call 12; (refine (sparse_ok H2 (hv1.mono hs2) HN.out).mono ?_; rintro e w3 ⟨v3, s3, rfl, hs3, H3⟩; clear H2; obtain ⟨s4, hs4, H4, hv3⟩ := Kin.Osl.fr H3; clear H3; have H5 := Kin.Osl.imp (d := kPr) (d' := kPr.sh s4) rfl rfl rfl kPr_flat H4; clear H4))
    | ((with_reducible refine OpG.list rfl ?_); (refine G_appendS kPr_at _ _ rfl H5 hv3 rfl rfl ?_ ?_; (case refine_1 => show _ * 16 ≤ _; have := HB.out; omega); clear H5; intro v6 w6 H6; obtain ⟨s5, hs5, H7, hv7⟩ := Kin.Osl.fr H6; clear H6; replace hv7 := hv7.unsh hs5; obtain ⟨zs, hzs⟩ : ∃ zs, zs = full xs ++ sparse xs := ⟨_, rfl⟩; rw [← hzs] at hv7; have HZ := Lib.hid hzs; have hzl : zs.length ≤ 3200 := (by rw [hzs, List.length_append]; exact HB.out); clear hzs; obtain ⟨A7, cap7, e7, -, -, -⟩ := id hv7; subst e7)))
  have hv1' := hv1.mono (hs2.trans (hs3.trans (hs4.trans hs5)))
  clear hv3 hv
  have HV1 := Lib.hid hv1'
  clear hv1'
  go_loopw [13] (fun i wr => ∃ j : Nat, j ≤ zs.length ∧ i = .int .i64 j ∧ Holds E s5 L wr) (fun i _ => zs.length - (intOf i).toNat)
  case atStart => exact ⟨0, Nat.zero_le _, rfl, H7⟩
  case round =>
    clear H7
    obtain ⟨j, hj, rfl, H⟩ := hrel
    by_cases hltj : j < zs.length
    · obtain ⟨b, off, c, rfl, hK, hC⟩ := hv7.elem j hltj
      obtain ⟨p, q, hp, hq, hx, hst, hst', hto⟩ := mem_pairs (by rw [← HZ.out]; exact List.getElem_mem hltj)
      rw [hx] at hK
      obtain ⟨rfl, -, -⟩ := kPr_open (id hK)
      simp only [] at hC
      have hC : Cells s5 ⟨b, off + j * 2, none⟩ _ := hC
      clear hx
      obtain ⟨bt, offt, ct, rfl, hKp, hCp⟩ := HV1.out.elem p hp
      obtain ⟨bt', offt', ct', he, hKq, hCq⟩ := HV1.out.elem q hq
      cases he
      obtain ⟨vp, rfl, -, -, -, -, -⟩ := kT_open hKp
      obtain ⟨vq, rfl, -, -, -, -, -⟩ := kT_open hKq
      rw [hst] at hCp
      rw [hst'] at hCq
      have hCp : Cells s5 ⟨bt, offt + p * 5, none⟩ _ := hCp
      have hCq : Cells s5 ⟨bt, offt + q * 5, none⟩ _ := hCq
      clear hst hst' hKp hKq
      go_wp2_with (first
        | ((with_reducible refine OpG.list rfl ?_); first
          | (refine G_sN _ _ rfl (Try.isAgg32 _) rfl H hC (Try.sizeOf32 _) ?_)
          | (refine G_alloc 32 rfl (Try.zeroValue32 _) H ?_; clear H; intro g w1 H)
          | (refine G_setN _ _ _ rfl (Try.sizeOf32 _) rfl rfl (kPr.one hK) H rfl ?_; clear H; intro w1 H)
          | (refine G_p1i 0 _ _ rfl (Try.isAgg3 _) rfl H rfl rfl ?_)
          | (refine G_s1 _ _ rfl (Try.isAgg3 _) rfl H hCp 1 rfl rfl ?_))
        | (refine OpG.listW rfl ?_; first
          | (refine G_p1i 0 _ _ rfl (Try.isAgg3 _) rfl H rfl rfl ?_)
          | (refine G_s1 _ _ rfl (Try.isAgg3 _) rfl H hCq 1 rfl rfl ?_)
          | (refine G_s1 _ _ rfl (Try.isAgg3 _) rfl H hCp 3 rfl rfl ?_)))
      go_roundw
      case rel => exact ⟨j + 1, by omega, by go_num, H.drop⟩
      case measure => simp [intOf]; omega
    · go_wp2_with (first
        | (go_at_call 11; refine (full_spec H HV1.out HN.out).mono ?_; clear H; rintro e w7 ⟨v8, s6, rfl, hs6, H⟩; obtain ⟨A8, cap8, e8, -, -, -⟩ := H.len; subst e8)
        | (go_at_call 13; refine (refFull_spec H (HV1.out.mono hs6) HN.out).mono ?_; clear H; rintro e w8 ⟨v9, rfl, H⟩; obtain ⟨A9, cap9, e9, -, -, -⟩ := H.len; subst e9))
      go_ret
      exact ⟨rfl, s6, hs1.trans (hs2.trans (hs3.trans (hs4.trans (hs5.trans hs6)))), H.drop.drop⟩
end Go.Proofs.Ytkppfcfnpajpbaa
