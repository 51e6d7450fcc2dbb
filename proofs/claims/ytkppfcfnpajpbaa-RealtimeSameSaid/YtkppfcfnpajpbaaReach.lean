/- What is reached by pairs, walked. -/
import Derived.Test.YtkppfcfnpajpbaaMat
import Derived.Test.YtkppfcfnpajpbaaEqPair
namespace Go.Proofs.Ytkppfcfnpajpbaa
open Go.RowKit
set_option linter.all false

set_option maxRecDepth 20000 in
set_option maxHeartbeats 32000000 in
theorem reach_spec {E : World} {s : SH} {L : List HP} {w : World} {v : Value} {ps : List (Int × Int)} {n : Nat} {S T : Mat} (hn : n ≤ 1000) (H : Holds E s L w) (hv : kPr.Sl s v ps)
    (hps : ∀ x ∈ ps, ∃ a b, a < n ∧ b < n ∧ S a b = true ∧ x = ((a : Int), (b : Int))) (hall : ∀ a b, a < n → b < n → S a b = true → ((a : Int), (b : Int)) ∈ ps)
    (hst : ∀ a b, a < n → b < n → S a b = true → T a b = true) (htr : Trn n T) (hT : ∀ a b, a < n → b < n → T a b = true → Pth S n a b) (hpl : ps.length ≤ 1000000) :
    Calls Try.prog 20 #[.int .i64 n, v] w fun e w' => ∃ v' s', e = .returned v' ∧ Sub s s' ∧ Holds E s' L w' ∧ kLB.Sl s' v' (matL n T) := by
  have HPS := Lib.hid hps
  have HALL := Lib.hid hall
  have HSTT := Lib.hid hst
  have HTT := Lib.hid hT
  clear hps hall hst hT
  have hv0 := hv
  obtain ⟨A, capv, rfl, h1, h2, -⟩ := hv
  clear h2
  go_enter Try.func20, Try.ntmps20
  go_wp2_with ((with_reducible refine OpG.list rfl ?_); (refine G_make1 kLB_at _ _ rfl n rfl rfl (.slice none 0 0) rfl (fun i z hi hz => ?_) ?_ H ?_; (case refine_1 => rw [show Try.prog.info? kLB.e = some Try.t38 from Try.type38] at hi; cases hi; cases hz; rfl); (case refine_2 => show n * 24 ≤ _; omega); clear H; intro B w1 H; rw [outC_zero n (fun _ => 0)] at H))
  go_loopw [16] (fun i wr => ∃ k : Nat, k ≤ n ∧ i = .int .i64 k ∧ ∃ bs, Holds E s (outP n bs k B :: (rowsP n (fun _ _ => false) bs k ++ L)) wr) (fun i _ => n - (intOf i).toNat)
  case atStart => exact ⟨0, Nat.zero_le _, rfl, _, H⟩
  case round =>
    clear H
    obtain ⟨k, hk, rfl, bs, H⟩ := hrel
    by_cases hlt : k < n
    · have hks : k < (outC n bs k).size := by rw [outC_size]; exact hlt
      go_wp2_with ((with_reducible refine OpG.list rfl ?_); first
        | (refine G_make1 kB_at _ _ rfl n rfl rfl (.bool false) rfl (fun i z hi hz => ?_) ?_ H ?_; (case refine_1 => rw [show Try.prog.info? kB.e = some Try.t4 from Try.type4] at hi; cases hi; cases hz; rfl); (case refine_2 => show n * 1 ≤ _; omega); clear H; intro b w2 H; rw [rowC_false] at H)
        | (refine G_set1i 1 (v := Value.slice _ _ _) _ _ _ rfl (Try.sizeOf38 _) rfl rfl rfl H rfl hks ?_; clear H; intro w3 H; simp only [List.set_cons_succ, List.set_cons_zero] at H; rw [outC_set] at H; replace H := rowsP_snoc (M := fun _ _ => false) H))
      go_roundw
      case rel => exact ⟨k + 1, by omega, by go_num, _, H⟩
      case measure => simp [intOf]; omega
    · obtain rfl : n = k := by omega
      clear hlt hk
      go_wp2
      go_loopw [27] (fun i wr => ∃ m : Nat, m ≤ ps.length ∧ i = .int .i64 m ∧ ∃ M s', Sub s s' ∧ Ini n S ps m M ∧ Holds E s' (outP n bs n B :: (rowsP n M bs n ++ L)) wr) (fun i _ => ps.length - (intOf i).toNat)
      case atStart => exact ⟨0, Nat.zero_le _, rfl, _, s, Sub.refl _, Ini.zero, H⟩
      case round =>
        clear H
        obtain ⟨m, hm, rfl, M, s2, hs2, hini, H⟩ := hrel
        by_cases hltm : m < ps.length
        · obtain ⟨b, off, c, rfl, hK, hC⟩ := (hv0.mono hs2).elem m hltm
          obtain ⟨p, q, hp, hq, hpq, hx⟩ := HPS.out _ (List.getElem_mem hltm)
          have hstep := hini.step hltm hx hpq
          rw [hx] at hK
          obtain ⟨rfl, -, -⟩ := kPr_open (id hK)
          simp only [] at hC
          have hC : Cells s2 ⟨b, off + m * 2, none⟩ _ := hC
          have HSTEP := Lib.hid hstep
          clear hx hpq hstep hini
          have hop : (outC n bs n)[p]? = some (.slice (some ⟨bs p, 0, none⟩) n n) := outC_get bs hp hp
          have hgp : ∀ A C : HP, (A :: C :: (rowsP n M bs n ++ L))[p + 2]? = some (pt (bs p) (.cells (rowC n (M p)) 4 (0, 0))) := fun A C => rowsP_get hp
          have hqs : q < (rowC n (M p)).size := by rw [rowC_size]; exact hq
          go_wp2_with (first
            | ((with_reducible refine OpG.list rfl ?_); first
              | (refine G_sN _ _ rfl (Try.isAgg32 _) rfl H hC (Try.sizeOf32 _) ?_)
              | (refine G_alloc 32 rfl (Try.zeroValue32 _) H ?_; clear H; intro g w4 H)
              | (refine G_setN _ _ _ rfl (Try.sizeOf32 _) rfl rfl (kPr.one hK) H rfl ?_; clear H; intro w4 H)
              | (refine G_p1i 0 _ _ rfl (Try.isAgg3 _) rfl H rfl rfl ?_))
            | (refine OpG.listW rfl ?_; (refine G_p1i 0 _ _ rfl (Try.isAgg3 _) rfl H rfl rfl ?_)))
          refine wp_draw_ob (k := 7) (sz := 107) mixed (by simp) rfl (by kernel_rfl) (by kernel_rfl) H (by simp only [List.take_succ_cons, List.take_zero]; exact rfl) (by simp only [List.drop_succ_cons, List.drop_zero]; exact rfl)
            (fun y => by simp only [ov, Act.put, List.setIfInBounds_toArray, List.set_cons_succ, List.set_cons_zero]; exact rfl) ?_
          iterate 7 (apply Ob.valw; (intro s' w' y Φ hs H hG hΦ; simp [dh, isV, dep, Region.binds] at hG; (try simp only [hG]); first
            | (refine wantN rfl ?_; exact hΦ _ _ (Sub.refl _) H)
            | (refine wantY rfl ?_; first
              | (refine G_p1i 0 _ _ rfl (Try.isAgg3 _) rfl H rfl rfl ?_; exact hΦ _ _ (Sub.refl _) H)
              | (refine G_p1i 1 _ _ rfl (Try.isAgg38 _) rfl H rfl hop ?_; exact hΦ _ _ (Sub.refl _) H)
              | (go_simp; exact hΦ _ _ (Sub.refl _) H))))
          clear H
          intro s3 w3 yy hs3 H hG
          simp [gh, isV] at hG
          simp only [hG]
          clear hG
          go_wp2_with (((with_reducible refine OpG.list rfl ?_); (refine G_set1i (p + 2) (v := Value.bool true) _ _ _ rfl (Try.sizeOf4 _) rfl rfl rfl H (hgp _ _) hqs ?_; clear H; intro w5 H)))
          simp only [List.set_cons_succ] at H
          rw [rowsP_set true hp] at H
          go_roundw
          case rel => exact ⟨m + 1, by omega, by go_num, _, _, hs2.trans hs3, HSTEP.out, H.drop⟩
          case measure => simp [intOf]; omega
        · have hM := hini.fin (by omega) HALL.out
          have hclo := Clo.start HSTT.out hM
          clear hM hini
          go_wp2
          go_loopw [61] (fun i wr => ∃ k : Nat, k ≤ n ∧ i = .int .i64 k ∧ ∃ M s', Sub s s' ∧ Clo n S T k 0 0 M ∧ Holds E s' (outP n bs n B :: (rowsP n M bs n ++ L)) wr) (fun i _ => n - (intOf i).toNat)
          case atStart => exact ⟨0, Nat.zero_le _, rfl, M, s2, hs2, hclo, H⟩
          case round =>
            clear H hs2 hclo
            obtain ⟨k, hk, rfl, M, s2, hs2, hclo, H⟩ := hrel
            by_cases hltk : k < n
            · go_wp2
              go_loopw [65] (fun i wr => ∃ i' : Nat, i' ≤ n ∧ i = .int .i64 i' ∧ ∃ M s', Sub s s' ∧ Clo n S T k i' 0 M ∧ Holds E s' (outP n bs n B :: (rowsP n M bs n ++ L)) wr) (fun i _ => n - (intOf i).toNat)
              case atStart => exact ⟨0, Nat.zero_le _, rfl, M, s2, hs2, hclo, H⟩
              case round =>
                clear H hs2 hclo
                obtain ⟨i, hi', rfl, M, s2, hs2, hclo, H⟩ := hrel
                by_cases hi : i < n
                · go_wp2
                  go_loopw [69] (fun j wr => ∃ j' : Nat, j' ≤ n ∧ j = .int .i64 j' ∧ ∃ M s', Sub s s' ∧ Clo n S T k i j' M ∧ Holds E s' (outP n bs n B :: (rowsP n M bs n ++ L)) wr) (fun j _ => n - (intOf j).toNat)
                  case atStart => exact ⟨0, Nat.zero_le _, rfl, M, s2, hs2, hclo, H⟩
                  case round =>
                    clear H hs2 hclo
                    obtain ⟨j, hj', rfl, M, s2, hs2, hclo, H⟩ := hrel
                    by_cases hj : j < n
                    · have hstep := hclo.step htr hltk hi hj
                      obtain ⟨r0, hr0⟩ : ∃ r, M i j = r := ⟨_, rfl⟩
                      obtain ⟨r1, hr1⟩ : ∃ r, M i k = r := ⟨_, rfl⟩
                      obtain ⟨r2, hr2⟩ : ∃ r, M k j = r := ⟨_, rfl⟩
                      rw [hr0, hr1, hr2] at hstep
                      have huij : (rowC n (M i))[j]? = some (.bool r0) := by rw [rowC_get _ hj, hr0]
                      have huik : (rowC n (M i))[k]? = some (.bool r1) := by rw [rowC_get _ hltk, hr1]
                      have hukj : (rowC n (M k))[j]? = some (.bool r2) := by rw [rowC_get _ hj, hr2]
                      have hoi : (outC n bs n)[i]? = some (.slice (some ⟨bs i, 0, none⟩) n n) := outC_get bs hi hi
                      have hok : (outC n bs n)[k]? = some (.slice (some ⟨bs k, 0, none⟩) n n) := outC_get bs hltk hltk
                      have hgi : ∀ A : HP, (A :: (rowsP n M bs n ++ L))[i + 1]? = some (pt (bs i) (.cells (rowC n (M i)) 4 (0, 0))) := fun A => rowsP_get hi
                      have hgk : ∀ A : HP, (A :: (rowsP n M bs n ++ L))[k + 1]? = some (pt (bs k) (.cells (rowC n (M k)) 4 (0, 0))) := fun A => rowsP_get hltk
                      have hjs : j < (rowC n (M i)).size := by rw [rowC_size]; exact hj
                      clear hr0 hr1 hr2 hclo
                      cases r0 with
                      | true =>
                        have HST := Lib.hid hstep
                        clear hstep
                        go_wp2_with fail
                        refine wp_draw_ob (k := 30) (sz := 107) mixed (by simp) rfl (by kernel_rfl) (by kernel_rfl) H (by simp only [List.take_succ_cons, List.take_zero]; exact rfl) (by simp only [List.drop_succ_cons, List.drop_zero]; exact rfl)
                          (fun y => by simp only [ov, Act.put, List.setIfInBounds_toArray, List.set_cons_succ, List.set_cons_zero]; exact rfl) ?_
                        iterate 30 (apply Ob.valw; (intro s' w' y Φ hs H hG hΦ; simp [dh, isV, dep, Region.binds] at hG; (try simp only [hG]); first
                          | (refine wantN rfl ?_; exact hΦ _ _ (Sub.refl _) H)
                          | (refine wantY rfl ?_; first
                            | (refine G_p1i 0 _ _ rfl (Try.isAgg38 _) rfl H rfl hoi ?_; exact hΦ _ _ (Sub.refl _) H)
                            | (refine G_p1i 0 _ _ rfl (Try.isAgg38 _) rfl H rfl hok ?_; exact hΦ _ _ (Sub.refl _) H)
                            | (refine G_p1i (i + 1) _ _ rfl (Try.isAgg4 _) rfl H (hgi _) huij ?_; exact hΦ _ _ (Sub.refl _) H)
                            | (refine G_p1i (i + 1) _ _ rfl (Try.isAgg4 _) rfl H (hgi _) huik ?_; exact hΦ _ _ (Sub.refl _) H)
                            | (refine G_p1i (k + 1) _ _ rfl (Try.isAgg4 _) rfl H (hgk _) hukj ?_; exact hΦ _ _ (Sub.refl _) H)
                            | (go_simp; exact hΦ _ _ (Sub.refl _) H))))
                        clear H
                        intro s3 w3 yy hs3 H hG
                        simp [gh, isV] at hG
                        simp only [hG]
                        clear hG
                        go_wp2_with (((with_reducible refine OpG.list rfl ?_); (refine G_set1i (i + 1) (v := Value.bool true) _ _ _ rfl (Try.sizeOf4 _) rfl rfl rfl H (hgi _) hjs ?_; clear H; intro w5 H)))
                        simp only [List.set_cons_succ] at H
                        rw [rowsP_set true hi] at H
                        go_roundw
                        case rel => exact ⟨j + 1, by omega, by go_num, _, _, hs2.trans hs3, HST.out, H⟩
                        case measure => simp [intOf]; omega
                      | false =>
                        cases r1 with
                        | false =>
                          have HST := Lib.hid hstep
                          clear hstep
                          go_wp2_with fail
                          refine wp_draw_ob (k := 30) (sz := 107) mixed (by simp) rfl (by kernel_rfl) (by kernel_rfl) H (by simp only [List.take_succ_cons, List.take_zero]; exact rfl) (by simp only [List.drop_succ_cons, List.drop_zero]; exact rfl)
                            (fun y => by simp only [ov, Act.put, List.setIfInBounds_toArray, List.set_cons_succ, List.set_cons_zero]; exact rfl) ?_
                          iterate 30 (apply Ob.valw; (intro s' w' y Φ hs H hG hΦ; simp [dh, isV, dep, Region.binds] at hG; (try simp only [hG]); first
                            | (refine wantN rfl ?_; exact hΦ _ _ (Sub.refl _) H)
                            | (refine wantY rfl ?_; first
                              | (refine G_p1i 0 _ _ rfl (Try.isAgg38 _) rfl H rfl hoi ?_; exact hΦ _ _ (Sub.refl _) H)
                              | (refine G_p1i 0 _ _ rfl (Try.isAgg38 _) rfl H rfl hok ?_; exact hΦ _ _ (Sub.refl _) H)
                              | (refine G_p1i (i + 1) _ _ rfl (Try.isAgg4 _) rfl H (hgi _) huij ?_; exact hΦ _ _ (Sub.refl _) H)
                              | (refine G_p1i (i + 1) _ _ rfl (Try.isAgg4 _) rfl H (hgi _) huik ?_; exact hΦ _ _ (Sub.refl _) H)
                              | (refine G_p1i (k + 1) _ _ rfl (Try.isAgg4 _) rfl H (hgk _) hukj ?_; exact hΦ _ _ (Sub.refl _) H)
                              | (go_simp; exact hΦ _ _ (Sub.refl _) H))))
                          clear H
                          intro s3 w3 yy hs3 H hG
                          simp [gh, isV] at hG
                          simp only [hG]
                          clear hG
                          go_wp2_with (((with_reducible refine OpG.list rfl ?_); (refine G_set1i (i + 1) (v := Value.bool false) _ _ _ rfl (Try.sizeOf4 _) rfl rfl rfl H (hgi _) hjs ?_; clear H; intro w5 H)))
                          simp only [List.set_cons_succ] at H
                          rw [rowsP_set false hi] at H
                          go_roundw
                          case rel => exact ⟨j + 1, by omega, by go_num, _, _, hs2.trans hs3, HST.out, H⟩
                          case measure => simp [intOf]; omega
                        | true =>
                          have HST := Lib.hid hstep
                          clear hstep
                          go_wp2_with fail
                          refine wp_draw_ob (k := 30) (sz := 107) mixed (by simp) rfl (by kernel_rfl) (by kernel_rfl) H (by simp only [List.take_succ_cons, List.take_zero]; exact rfl) (by simp only [List.drop_succ_cons, List.drop_zero]; exact rfl)
                            (fun y => by simp only [ov, Act.put, List.setIfInBounds_toArray, List.set_cons_succ, List.set_cons_zero]; exact rfl) ?_
                          iterate 30 (apply Ob.valw; (intro s' w' y Φ hs H hG hΦ; simp [dh, isV, dep, Region.binds] at hG; (try simp only [hG]); first
                            | (refine wantN rfl ?_; exact hΦ _ _ (Sub.refl _) H)
                            | (refine wantY rfl ?_; first
                              | (refine G_p1i 0 _ _ rfl (Try.isAgg38 _) rfl H rfl hoi ?_; exact hΦ _ _ (Sub.refl _) H)
                              | (refine G_p1i 0 _ _ rfl (Try.isAgg38 _) rfl H rfl hok ?_; exact hΦ _ _ (Sub.refl _) H)
                              | (refine G_p1i (i + 1) _ _ rfl (Try.isAgg4 _) rfl H (hgi _) huij ?_; exact hΦ _ _ (Sub.refl _) H)
                              | (refine G_p1i (i + 1) _ _ rfl (Try.isAgg4 _) rfl H (hgi _) huik ?_; exact hΦ _ _ (Sub.refl _) H)
                              | (refine G_p1i (k + 1) _ _ rfl (Try.isAgg4 _) rfl H (hgk _) hukj ?_; exact hΦ _ _ (Sub.refl _) H)
                              | (go_simp; exact hΦ _ _ (Sub.refl _) H))))
                          clear H
                          intro s3 w3 yy hs3 H hG
                          simp [gh, isV] at hG
                          simp only [hG]
                          clear hG
                          go_wp2_with (((with_reducible refine OpG.list rfl ?_); (refine G_set1i (i + 1) (v := Value.bool r2) _ _ _ rfl (Try.sizeOf4 _) rfl rfl rfl H (hgi _) hjs ?_; clear H; intro w5 H)))
                          simp only [List.set_cons_succ] at H
                          rw [rowsP_set r2 hi] at H
                          go_roundw
                          case rel => exact ⟨j + 1, by omega, by go_num, _, _, hs2.trans hs3, HST.out, H⟩
                          case measure => simp [intOf]; omega
                    · go_wp2
                      go_roundw
                      case rel => exact ⟨i + 1, by omega, by go_num, M, s2, hs2, hclo.row (by omega), H⟩
                      case measure => simp [intOf]; omega
                · go_wp2
                  go_roundw
                  case rel => exact ⟨k + 1, by omega, by go_num, M, s2, hs2, hclo.next (by omega), H⟩
                  case measure => simp [intOf]; omega
            · obtain rfl : n = k := by omega
              go_wp2
              go_ret
              obtain ⟨s9, hs9, H9, h9⟩ := mat_fr hn H
              have hMT := hclo.fin (by omega) HTT.out
              have e : matL n M = matL n T := by
                unfold matL
                apply List.map_congr_left
                intro a ha
                apply List.map_congr_left
                intro b hb
                exact hMT a b (List.mem_range.1 ha) (List.mem_range.1 hb)
              rw [e] at h9
              exact ⟨_, s9, rfl, hs2.trans hs9, H9, h9⟩
end Go.Proofs.Ytkppfcfnpajpbaa
