/- RealtimeGoes: before goes on from one to the next, and nothing is before itself. -/
import Derived.Test.YtkppfcfnpajpbaaRight
namespace Go.Proofs.Ytkppfcfnpajpbaa
open Go.RowKit
set_option linter.unusedSimpArgs false
set_option linter.unusedVariables false

theorem small_s {E : World} {s : SH} {L : List HP} {w : World} {v : Value} {xs : List Txn} (H : Holds E s L w) (hv : kT.Sl s v xs) :
    Calls Try.prog 8 #[v] w fun e w' => ∃ v' s', e = .returned v' ∧ Sub s s' ∧ Holds E s' L w' ∧ kT.Sl s' v' (small xs) :=
  (small_spec H hv).mono fun e w' ⟨v', s', he, hs, H'⟩ => let ⟨s2, h2, H2, h3⟩ := Kin.Osl.fr H'; ⟨v', s2, he, hs.trans h2, H2, h3⟩

theorem bef_self {x : Txn} (h : Okay x) : bef x.state x.to x.state x.from_ = false := by
  simp only [bef, Bool.and_eq_false_iff, decide_eq_false_iff_not]
  right; have := h.2.1; omega
theorem bef_trans {x y z : Txn} (hy : Okay y) (h1 : bef x.state x.to y.state y.from_ = true) (h2 : bef y.state y.to z.state z.from_ = true) : bef x.state x.to z.state z.from_ = true := by
  simp only [bef, Bool.and_eq_true, decide_eq_true_eq] at *
  have := hy.2.1
  refine ⟨⟨⟨h1.1.1.1, h2.1.1.2⟩, h1.1.2⟩, ?_⟩
  omega
set_option maxHeartbeats 16000000 in
theorem goes_spec {E : World} {s : SH} {L : List HP} {w : World} {v : Value} {xs : List Txn} (H : Holds E s L w) (hv : kT.Sl s v xs) :
    Calls Try.prog 3 #[v] w fun e w' => e = .returned (.bool true) ∧ ∃ s', Sub s s' ∧ Holds E s' L w' := by
  go_enter Try.func3, Try.ntmps3
  go_wp2_with (first
    | (go_at_call 8; refine (small_s H hv).mono ?_; rintro e w1 ⟨v1, s1, rfl, hs1, H1, hv1⟩)
    | (go_at_call 9; refine (right_spec H1 hv1).mono ?_; rintro e w2 ⟨v2, s2, ys, rfl, hs2, H2, hv2, hok, hl25⟩; obtain ⟨A, cap, hv2e, hcap, -, -⟩ := id hv2; subst hv2e))
  have HOK := Lib.hid hok
  clear H H1 hok
  go_loopw [15] (fun i wr => ∃ k : Nat, k ≤ ys.length ∧ i = .int .i64 k ∧ Holds E s2 L wr) (fun i _ => ys.length - (intOf i).toNat)
  case atStart => exact ⟨0, Nat.zero_le _, rfl, H2⟩
  case round =>
    clear H2
    obtain ⟨i, hi, rfl, H⟩ := hrel
    by_cases hlt : i < ys.length
    · obtain ⟨b, off, c, rfl, hK, hC⟩ := hv2.elem i hlt
      obtain ⟨vx, rfl, -, -, -, -, -⟩ := kT_open hK
      have hC : Cells s2 ⟨b, off + i * 5, none⟩ _ := hC
      have hokx : Okay ys[i] := HOK.out _ (List.getElem_mem _)
      have HOX := Lib.hid hokx
      generalize ys[i] = x at *
      clear hokx
      go_wp2_with (first
        | ((with_reducible refine OpG.list rfl ?_); first
          | (refine G_sN _ _ rfl (Try.isAgg26 _) rfl H hC (Try.sizeOf26 _) ?_)
          | (refine G_alloc 26 rfl (Try.zeroValue26 _) H ?_; clear H; intro g w1 H)
          | (refine G_setN _ _ _ rfl (Try.sizeOf26 _) rfl rfl (kT.one hK) H rfl ?_; clear H; intro w1 H)))
      go_loopw [21] (fun i wr => ∃ k : Nat, k ≤ ys.length ∧ i = .int .i64 k ∧ Holds E s2 (pt g (.cells (tcells x.proc x.state x.from_ x.to vx).toArray 26 (0, 0)) :: L) wr) (fun i _ => ys.length - (intOf i).toNat)
      case atStart => exact ⟨0, Nat.zero_le _, rfl, H⟩
      case round =>
        clear H
        obtain ⟨j, hj, rfl, H⟩ := hrel
        by_cases hltj : j < ys.length
        · obtain ⟨b', off', c', he, hK', hC'⟩ := hv2.elem j hltj
          cases he
          obtain ⟨vy, rfl, -, -, -, -, -⟩ := kT_open hK'
          have hC' : Cells s2 ⟨b, off + j * 5, none⟩ _ := hC'
          have hoky : Okay ys[j] := HOK.out _ (List.getElem_mem _)
          have HOY := Lib.hid hoky
          generalize ys[j] = y at *
          clear hoky
          go_wp2_with (first
            | ((with_reducible refine OpG.list rfl ?_); first
                | (refine G_sN _ _ rfl (Try.isAgg26 _) rfl H hC' (Try.sizeOf26 _) ?_)
                | (refine G_alloc 26 rfl (Try.zeroValue26 _) H ?_; clear H; intro g' w1 H)
                | (refine G_setN _ _ _ rfl (Try.sizeOf26 _) rfl rfl (kT.one hK') H rfl ?_; clear H; intro w1 H)))
          go_loopw [27] (fun i wr => ∃ k : Nat, k ≤ ys.length ∧ i = .int .i64 k ∧ Holds E s2 (pt g' (.cells (tcells y.proc y.state y.from_ y.to vy).toArray 26 (0, 0)) :: pt g (.cells (tcells x.proc x.state x.from_ x.to vx).toArray 26 (0, 0)) :: L) wr) (fun i _ => ys.length - (intOf i).toNat)
          case atStart => exact ⟨0, Nat.zero_le _, rfl, H⟩
          case round =>
            clear H
            obtain ⟨k, hk, rfl, H⟩ := hrel
            by_cases hltk : k < ys.length
            · obtain ⟨b', off', c', he, hK'', hC''⟩ := hv2.elem k hltk
              cases he
              obtain ⟨vz, rfl, -, -, -, -, -⟩ := kT_open hK''
              have hC'' : Cells s2 ⟨b, off + k * 5, none⟩ _ := hC''
              generalize ys[k] = z at *
              have hxx : ∀ L (w : World), Holds E s2 L w → Calls Try.prog 10 #[tv x.proc x.state x.from_ x.to vx, tv x.proc x.state x.from_ x.to vx] w fun e w' => e = .returned (.bool (bef x.state x.to x.state x.from_)) ∧ Holds E s2 L w' := fun L w H => before_spec _ _ _ _ _ _ _ _ _ _ H
              have hxy : ∀ L (w : World), Holds E s2 L w → Calls Try.prog 10 #[tv x.proc x.state x.from_ x.to vx, tv y.proc y.state y.from_ y.to vy] w fun e w' => e = .returned (.bool (bef x.state x.to y.state y.from_)) ∧ Holds E s2 L w' := fun L w H => before_spec _ _ _ _ _ _ _ _ _ _ H
              have hyz : ∀ L (w : World), Holds E s2 L w → Calls Try.prog 10 #[tv y.proc y.state y.from_ y.to vy, tv z.proc z.state z.from_ z.to vz] w fun e w' => e = .returned (.bool (bef y.state y.to z.state z.from_)) ∧ Holds E s2 L w' := fun L w H => before_spec _ _ _ _ _ _ _ _ _ _ H
              have hxz : ∀ L (w : World), Holds E s2 L w → Calls Try.prog 10 #[tv x.proc x.state x.from_ x.to vx, tv z.proc z.state z.from_ z.to vz] w fun e w' => e = .returned (.bool (bef x.state x.to z.state z.from_)) ∧ Holds E s2 L w' := fun L w H => before_spec _ _ _ _ _ _ _ _ _ _ H
              rw [bef_self HOX.out] at hxx
              have htr := bef_trans (x := x) (y := y) (z := z) HOY.out
              generalize bef x.state x.to y.state y.from_ = rxy at *
              generalize bef y.state y.to z.state z.from_ = ryz at *
              generalize bef x.state x.to z.state z.from_ = rxz at *
              have HXX := Lib.hid hxx
              have HXY := Lib.hid hxy
              have HYZ := Lib.hid hyz
              have HXZ := Lib.hid hxz
              clear hxx hxy hyz hxz
              cases rxy with
              | false =>
                clear htr
                go_wp2_with (first
                  | ((with_reducible refine OpG.list rfl ?_); first
                      | (refine G_sN _ _ rfl (Try.isAgg26 _) rfl H hC'' (Try.sizeOf26 _) ?_)
                      | (refine G_alloc 26 rfl (Try.zeroValue26 _) H ?_; clear H; intro g'' w1 H)
                      | (refine G_setN _ _ _ rfl (Try.sizeOf26 _) rfl rfl (kT.one hK'') H rfl ?_; clear H; intro w1 H))
                  | (refine OpG.listW rfl ?_; first
                    | (refine G_pNi 0 _ _ rfl (Try.isAgg26 _) rfl H rfl (Try.sizeOf26 _) ?_)
                    | (refine G_pNi 1 _ _ rfl (Try.isAgg26 _) rfl H rfl (Try.sizeOf26 _) ?_)
                    | (refine G_pNi 2 _ _ rfl (Try.isAgg26 _) rfl H rfl (Try.sizeOf26 _) ?_))
                  | (go_at_call 10; first
                    | (refine (HXY.out _ _ H).mono ?_; clear H; rintro e w1 ⟨rfl, H⟩)
                    | (refine (HXX.out _ _ H).mono ?_; clear H; rintro e w1 ⟨rfl, H⟩)))
                go_roundw
                case rel => exact ⟨k + 1, by omega, by go_num, H.drop⟩
                case measure => simp [intOf]; omega
              | true =>
                cases ryz with
                | false =>
                  clear htr
                  go_wp2_with (first
                    | ((with_reducible refine OpG.list rfl ?_); first
                        | (refine G_sN _ _ rfl (Try.isAgg26 _) rfl H hC'' (Try.sizeOf26 _) ?_)
                        | (refine G_alloc 26 rfl (Try.zeroValue26 _) H ?_; clear H; intro g'' w1 H)
                        | (refine G_setN _ _ _ rfl (Try.sizeOf26 _) rfl rfl (kT.one hK'') H rfl ?_; clear H; intro w1 H))
                    | (refine OpG.listW rfl ?_; first
                      | (refine G_pNi 0 _ _ rfl (Try.isAgg26 _) rfl H rfl (Try.sizeOf26 _) ?_)
                      | (refine G_pNi 1 _ _ rfl (Try.isAgg26 _) rfl H rfl (Try.sizeOf26 _) ?_)
                      | (refine G_pNi 2 _ _ rfl (Try.isAgg26 _) rfl H rfl (Try.sizeOf26 _) ?_))
                    | (go_at_call 10; first
                      | (refine (HXY.out _ _ H).mono ?_; clear H; rintro e w1 ⟨rfl, H⟩)
                      | (refine (HYZ.out _ _ H).mono ?_; clear H; rintro e w1 ⟨rfl, H⟩)
                      | (refine (HXX.out _ _ H).mono ?_; clear H; rintro e w1 ⟨rfl, H⟩)))
                  go_roundw
                  case rel => exact ⟨k + 1, by omega, by go_num, H.drop⟩
                  case measure => simp [intOf]; omega
                | true =>
                  have e := htr rfl rfl
                  subst e
                  clear htr
                  go_wp2_with (first
                    | ((with_reducible refine OpG.list rfl ?_); first
                        | (refine G_sN _ _ rfl (Try.isAgg26 _) rfl H hC'' (Try.sizeOf26 _) ?_)
                        | (refine G_alloc 26 rfl (Try.zeroValue26 _) H ?_; clear H; intro g'' w1 H)
                        | (refine G_setN _ _ _ rfl (Try.sizeOf26 _) rfl rfl (kT.one hK'') H rfl ?_; clear H; intro w1 H))
                    | (refine OpG.listW rfl ?_; first
                      | (refine G_pNi 0 _ _ rfl (Try.isAgg26 _) rfl H rfl (Try.sizeOf26 _) ?_)
                      | (refine G_pNi 1 _ _ rfl (Try.isAgg26 _) rfl H rfl (Try.sizeOf26 _) ?_)
                      | (refine G_pNi 2 _ _ rfl (Try.isAgg26 _) rfl H rfl (Try.sizeOf26 _) ?_))
                    | (go_at_call 10; first
                      | (refine (HXY.out _ _ H).mono ?_; clear H; rintro e w1 ⟨rfl, H⟩)
                      | (refine (HYZ.out _ _ H).mono ?_; clear H; rintro e w1 ⟨rfl, H⟩)
                      | (refine (HXZ.out _ _ H).mono ?_; clear H; rintro e w1 ⟨rfl, H⟩)
                      | (refine (HXX.out _ _ H).mono ?_; clear H; rintro e w1 ⟨rfl, H⟩)))
                  go_roundw
                  case rel => exact ⟨k + 1, by omega, by go_num, H.drop⟩
                  case measure => simp [intOf]; omega
            · go_wp2
              go_roundw
              case rel => exact ⟨j + 1, by omega, by go_num, H.drop⟩
              case measure => simp [intOf]; omega
        · go_wp2
          go_roundw
          case rel => exact ⟨i + 1, by omega, by go_num, H.drop⟩
          case measure => simp [intOf]; omega
    · have hb : ∀ L (w : World), Holds E s2 L w → Calls Try.prog 10 #[tv 0 1 0 0 (.slice none 0 0), tv 0 1 1 0 (.slice none 0 0)] w fun e w' => e = .returned (.bool true) ∧ Holds E s2 L w' := fun L w H => before_spec _ _ _ _ _ _ _ _ _ _ H
      have HB := Lib.hid hb
      clear hb
      go_wp2_with (go_at_call 10; refine (HB.out _ _ H).mono ?_; clear H; rintro e w1 ⟨rfl, H⟩)
      go_ret
      exact ⟨rfl, s2, hs1.trans hs2, H⟩
end Go.Proofs.Ytkppfcfnpajpbaa
