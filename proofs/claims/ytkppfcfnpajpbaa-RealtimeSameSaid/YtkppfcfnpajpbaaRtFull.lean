/- All pairs: realtime.Full and the reference's. -/
import Derived.Test.YtkppfcfnpajpbaaPairs
namespace Go.Proofs.Ytkppfcfnpajpbaa
open Go.RowKit
set_option linter.all false

def full (xs : List Txn) : List (Int × Int) := prsTo (bfr xs) xs.length xs.length

set_option maxHeartbeats 400000 in
theorem full1_spec {E : World} {s : SH} {L : List HP} {w : World} (H : Holds E s L w) (i k : Int) :
    Calls Try.prog 27 #[.int .i64 i, .int .i64 k] w fun e w' => e = .returned (.bool true) ∧ Holds E s L w' := by
  go_enter Try.func27, Try.ntmps27
  go_wp2
  go_ret
  exact ⟨rfl, H⟩
set_option maxHeartbeats 400000 in
theorem full_spec {E : World} {s : SH} {L : List HP} {w : World} {v : Value} {xs : List Txn} (H : Holds E s L w) (hv : kT.Sl s v xs) (hn : xs.length ≤ 1000) :
    Calls Try.prog 11 #[v] w fun e w' => ∃ v' s', e = .returned v' ∧ Sub s s' ∧ Holds E s' (kPr.Osl v' (full xs) :: L) w' := by
  have hp := pairs_spec H hv hn 27 #[] (fun _ _ => Try.call27 _ _) (fun _ _ => true) (fun i k _ _ s' R w _ H => full1_spec H i k)
  simp only [Bool.and_true] at hp
  have HP := Lib.hid hp
  clear hp
  go_enter Try.func11, Try.ntmps11
  go_wp2_with (go_at_call 26; refine HP.out.mono ?_; clear H; rintro e w1 ⟨v1, s1, rfl, hs1, H⟩)
  go_ret
  exact ⟨_, s1, rfl, hs1, H⟩

section
variable {E : World} {s : SH} {L : List HP} {w : World} (p st f t p' st' f' t' : Int) (v v' : Value)
set_option maxHeartbeats 1000000 in
theorem refBefore_spec (H : Holds E s L w) :
    Calls Try.prog 15 #[tv p st f t v, tv p' st' f' t' v'] w fun e w' => e = .returned (.bool (bef st t st' f')) ∧ Holds E s L w' := by
  unfold tv
  have HB : Hid (bef st t st' f' = (decide (st = 1) && decide (st' = 1) && decide (0 ≤ t) && decide (t < f'))) := Lib.hid rfl
  by_cases h1 : st = 1
  · subst h1
    by_cases h2 : st' = 1
    · subst h2
      by_cases h3 : 0 ≤ t
      · by_cases h4 : t < f'
        · go_enter Try.func15, Try.ntmps15
          go_wp2
          go_ret
          exact ⟨by rw [HB.out]; simp [h3, h4], (H.alloc' _).alloc' _⟩
        · have h5 : decide (t < f') = false := by simpa using h4
          go_enter Try.func15, Try.ntmps15
          go_wp2
          go_ret
          exact ⟨by rw [HB.out]; simp [h3, h4], (H.alloc' _).alloc' _⟩
      · have h5 : decide (0 ≤ t) = false := by simpa using h3
        go_enter Try.func15, Try.ntmps15
        go_wp2
        go_ret
        exact ⟨by rw [HB.out, h5]; simp, (H.alloc' _).alloc' _⟩
    · have h3 : (st' == 1) = false := by simpa using h2
      have h4 : decide (st' = 1) = false := by simpa using h2
      clear h2
      go_enter Try.func15, Try.ntmps15
      go_wp2
      go_ret
      exact ⟨by rw [HB.out, h4]; simp, (H.alloc' _).alloc' _⟩
  · have h3 : (st == 1) = false := by simpa using h1
    have h4 : decide (st = 1) = false := by simpa using h1
    clear h1
    go_enter Try.func15, Try.ntmps15
    go_wp2
    go_ret
    exact ⟨by rw [HB.out, h4]; simp, (H.alloc' _).alloc' _⟩
end

set_option maxHeartbeats 8000000 in
theorem refFull_spec {E : World} {s : SH} {L : List HP} {w : World} {v : Value} {xs : List Txn} (H : Holds E s L w) (hv : kT.Sl s v xs) (hn : xs.length ≤ 1000) :
    Calls Try.prog 13 #[v] w fun e w' => ∃ v', e = .returned v' ∧ Holds E s (kPr.Osl v' (full xs) :: L) w' := by
  have hv0 := hv
  obtain ⟨A, capv, rfl, h1, h2, -⟩ := hv
  clear h2
  have hnil := Kin.Osl.nil (d := kPr) H
  clear H
  go_enter Try.func13, Try.ntmps13
  go_wp2
  go_loopw [3, 10] (fun out i wr => ∃ k : Nat, k ≤ xs.length ∧ i = .int .i64 k ∧ Holds E s (kPr.Osl out (prsTo (bfr xs) xs.length k) :: L) wr) (fun _ i _ => xs.length - (intOf i).toNat)
  case atStart => exact ⟨0, Nat.zero_le _, rfl, hnil⟩
  case round =>
    clear hnil
    obtain ⟨i, hi, rfl, H⟩ := hrel
    by_cases hlt : i < xs.length
    · obtain ⟨b, off, c, rfl, hK, hC⟩ := hv0.elem i hlt
      obtain ⟨vx, rfl, -, -, -, -, -⟩ := kT_open hK
      have hC : Cells s ⟨b, off + i * 5, none⟩ _ := hC
      have hxi : xs.getD i default = xs[i] := by rw [List.getD_eq_getElem?_getD, List.getElem?_eq_getElem hlt]; rfl
      have HXI := Lib.hid hxi
      generalize hx : xs[i] = x at *
      clear hx hxi
      go_wp2_with (first
        | ((with_reducible refine OpG.list rfl ?_); first
          | (refine G_sN _ _ rfl (Try.isAgg26 _) rfl H hC (Try.sizeOf26 _) ?_)
          | (refine G_alloc 26 rfl (Try.zeroValue26 _) H ?_; clear H; intro g w1 H)
          | (refine G_setN _ _ _ rfl (Try.sizeOf26 _) rfl rfl (kT.one hK) H rfl ?_; clear H; intro w1 H)))
      clear hK
      have H0 : Holds E s (kPr.Osl u3 (prsTo (bfr xs) xs.length i) :: pt g (.cells (tcells x.proc x.state x.from_ x.to vx).toArray 26 (0, 0)) :: L) _ := H.swap
      clear H
      go_loopw [3, 17] (fun out j wr => ∃ k : Nat, k ≤ xs.length ∧ j = .int .i64 k ∧ Holds E s (kPr.Osl out (prsTo (bfr xs) xs.length i ++ rowTo (bfr xs i) i k) :: pt g (.cells (tcells x.proc x.state x.from_ x.to vx).toArray 26 (0, 0)) :: L) wr) (fun _ j _ => xs.length - (intOf j).toNat)
      case atStart => exact ⟨0, Nat.zero_le _, rfl, by simpa [rowTo] using H0⟩
      case round =>
        clear H0
        obtain ⟨k, hk, rfl, H⟩ := hrel
        by_cases hltk : k < xs.length
        · obtain ⟨b', off', c', he, hK', hC'⟩ := hv0.elem k hltk
          cases he
          obtain ⟨vy, rfl, -, -, -, -, -⟩ := kT_open hK'
          have hC' : Cells s ⟨b, off + k * 5, none⟩ _ := hC'
          have hyk : xs.getD k default = xs[k] := by rw [List.getD_eq_getElem?_getD, List.getElem?_eq_getElem hltk]; rfl
          have HYK := Lib.hid hyk
          generalize hy : xs[k] = y at *
          clear hy hyk
          have hB : ∀ (s : SH) L (w : World), Holds E s L w → Calls Try.prog 15 #[tv x.proc x.state x.from_ x.to vx, tv y.proc y.state y.from_ y.to vy] w fun e w' => e = .returned (.bool (bef x.state x.to y.state y.from_)) ∧ Holds E s L w' := fun s L w H => refBefore_spec _ _ _ _ _ _ _ _ _ _ H
          have hbf : bfr xs i k = bef x.state x.to y.state y.from_ := by unfold bfr before; rw [HXI.out, HYK.out]
          have hbd := prs_bound (bfr xs) xs.length i k hlt hltk hn
          have HBD := Lib.hid hbd
          clear hbd
          have hrow : rowTo (bfr xs i) i (k + 1) = rowTo (bfr xs i) i k ++ if bef x.state x.to y.state y.from_ then [((i : Int), (k : Int))] else [] := by rw [rowTo_succ, hbf]
          generalize bef x.state x.to y.state y.from_ = rb at *
          have HB := Lib.hid hB
          have HR := Lib.hid hrow
          clear hB hbf hrow
          cases rb with
          | false =>
            go_wp2_with (first
              | ((with_reducible refine OpG.list rfl ?_); first
                | (refine G_sN _ _ rfl (Try.isAgg26 _) rfl H hC' (Try.sizeOf26 _) ?_)
                | (refine G_alloc 26 rfl (Try.zeroValue26 _) H ?_; clear H; intro g' w1 H)
                | (refine G_setN _ _ _ rfl (Try.sizeOf26 _) rfl rfl (kT.one hK') H rfl ?_; clear H; intro w1 H)
                | (refine G_pNi 2 _ _ rfl (Try.isAgg26 _) rfl H rfl (Try.sizeOf26 _) ?_)
                | (refine G_pNi 0 _ _ rfl (Try.isAgg26 _) rfl H rfl (Try.sizeOf26 _) ?_))
              | (go_at_call 15; refine (HB.out _ _ _ H).mono ?_; clear H; rintro e w1 ⟨rfl, H⟩))
            go_roundw
            case rel => exact ⟨k + 1, by omega, by go_num, by rw [HR.out]; simpa using H.drop⟩
            case measure => simp [intOf]; omega
          | true =>
            go_wp2_with (first
              | ((with_reducible refine OpG.list rfl ?_); first
                | (refine G_sN _ _ rfl (Try.isAgg26 _) rfl H hC' (Try.sizeOf26 _) ?_)
                | (refine G_alloc 26 rfl (Try.zeroValue26 _) H ?_; clear H; intro g' w1 H)
                | (refine G_setN _ _ _ rfl (Try.sizeOf26 _) rfl rfl (kT.one hK') H rfl ?_; clear H; intro w1 H)
                | (refine G_pNi 2 _ _ rfl (Try.isAgg26 _) rfl H rfl (Try.sizeOf26 _) ?_)
                | (refine G_pNi 0 _ _ rfl (Try.isAgg26 _) rfl H rfl (Try.sizeOf26 _) ?_)
                | (refine G_slice1 (v := Value.agg _) rfl rfl Try.underlying30 Try.sizeOf32 Try.zeroValue32 rfl rfl (by decide) (by decide) H ?_; clear H; intro g2 w4 H; replace H := (kPr_mkM H.swap.drop i k (by constructor <;> omega) (by constructor <;> omega)).rot3)
                | (refine G_append1 kPr_at _ _ rfl H rfl rfl ?_ ?_; (case refine_1 => show (_ + 1) * 16 ≤ _; have := HBD.out; omega); clear H; intro v5 w5 H))
              | (go_at_call 15; refine (HB.out _ _ _ H).mono ?_; clear H; rintro e w1 ⟨rfl, H⟩))
            go_roundw
            case rel => exact ⟨k + 1, by omega, by go_num, by rw [HR.out]; simpa [List.append_assoc] using H⟩
            case measure => simp [intOf]; omega
        · go_wp2
          go_roundw
          case rel => exact ⟨i + 1, by omega, by go_num, by
            rw [prsTo_succ]
            obtain rfl : k = xs.length := by omega
            exact H.swap.drop⟩
          case measure => simp [intOf]; omega
    · go_wp2
      go_ret
      obtain rfl : i = xs.length := by omega
      exact ⟨_, rfl, H⟩
end Go.Proofs.Ytkppfcfnpajpbaa
