/- The reference's Sparse, walked. -/
import Derived.Test.YtkppfcfnpajpbaaTellsP
import Derived.Test.YtkppfcfnpajpbaaRtFull
namespace Go.Proofs.Ytkppfcfnpajpbaa
open Go.RowKit
set_option linter.all false

set_option maxHeartbeats 16000000 in
theorem refSparse_spec {E : World} {s : SH} {L : List HP} {w : World} {v : Value} {xs : List Txn} (H : Holds E s L w) (hv : kT.Sl s v xs) (hn : xs.length ≤ 1000) :
    Calls Try.prog 17 #[v] w fun e w' => ∃ v', e = .returned v' ∧ Holds E s (kPr.Osl v' (sparse xs) :: L) w' := by
  rw [← refSparse_eq]
  obtain ⟨p, hp⟩ : ∃ p : Nat → Nat → Bool, p = fun i k => bfr xs i k && !(btw xs i k xs.length) := ⟨_, rfl⟩
  have hpe : ∀ i k, p i k = (bfr xs i k && !(btw xs i k xs.length)) := fun i k => by rw [hp]
  rw [← hp]
  clear hp
  have HPE := Lib.hid hpe
  clear hpe
  have hv0 := hv
  obtain ⟨A, capv, rfl, h1, h2, -⟩ := hv
  clear h2
  have hnil := Kin.Osl.nil (d := kPr) H
  clear H
  go_enter Try.func17, Try.ntmps17
  go_wp2
  go_loopw [3, 13] (fun out i wr => ∃ k : Nat, k ≤ xs.length ∧ i = .int .i64 k ∧ Holds E s (kPr.Osl out (prsTo p xs.length k) :: L) wr) (fun _ i _ => xs.length - (intOf i).toNat)
  case atStart => exact ⟨0, Nat.zero_le _, rfl, hnil⟩
  case round =>
    clear hnil
    obtain ⟨i, hi, rfl, H⟩ := hrel
    by_cases hlt : i < xs.length
    · obtain ⟨b, off, c, rfl, hK, hC⟩ := hv0.elem i hlt
      obtain ⟨vx, rfl, -, -, -, -, -⟩ := kT_open hK
      have hC : Cells s ⟨b, off + i * 5, none⟩ _ := hC
      have hxi : xs.getD i default = xs[i] := by rw [List.getD_eq_getElem?_getD, List.getElem?_eq_getElem hlt]; rfl
      have HXI := Lib.hid hxi
      generalize hgx : xs[i] = x at *
      clear hgx hxi
      go_wp2_with (first
        | ((with_reducible refine OpG.list rfl ?_); first
          | (refine G_sN _ _ rfl (Try.isAgg26 _) rfl H hC (Try.sizeOf26 _) ?_)
          | (refine G_alloc 26 rfl (Try.zeroValue26 _) H ?_; clear H; intro g w1 H)
          | (refine G_setN _ _ _ rfl (Try.sizeOf26 _) rfl rfl (kT.one hK) H rfl ?_; clear H; intro w1 H)))
      go_loopw [3, 20] (fun out j wr => ∃ k : Nat, k ≤ xs.length ∧ j = .int .i64 k ∧ Holds E s (kPr.Osl out (prsTo p xs.length i ++ rowTo (p i) i k) :: pt g (.cells (tcells x.proc x.state x.from_ x.to vx).toArray 26 (0, 0)) :: L) wr) (fun _ j _ => xs.length - (intOf j).toNat)
      case atStart => exact ⟨0, Nat.zero_le _, rfl, by rw [show rowTo (p i) i 0 = [] from rfl, List.append_nil]; exact H.swap⟩
      case round =>
        clear H
        obtain ⟨k, hk, rfl, H⟩ := hrel
        by_cases hltk : k < xs.length
        · obtain ⟨bby, offy, cy, hey, hKy, hCy⟩ := hv0.elem k hltk
          cases hey
          obtain ⟨vy, rfl, -, -, -, -, -⟩ := kT_open hKy
          have hCy : Cells s ⟨b, off + k * 5, none⟩ _ := hCy
          have hxy : xs.getD k default = xs[k] := by rw [List.getD_eq_getElem?_getD, List.getElem?_eq_getElem hltk]; rfl
          have HXK := Lib.hid hxy
          generalize hgy : xs[k] = y at *
          clear hgy hxy
          have hbd := prs_bound p xs.length i k hlt hltk hn
          have HBD := Lib.hid hbd
          clear hbd
          go_wp2_with (first
            | ((with_reducible refine OpG.list rfl ?_); first
              | (refine G_sN _ _ rfl (Try.isAgg26 _) rfl H hCy (Try.sizeOf26 _) ?_)
              | (refine G_alloc 26 rfl (Try.zeroValue26 _) H ?_; clear H; intro gy w1 H)
              | (refine G_setN _ _ _ rfl (Try.sizeOf26 _) rfl rfl (kT.one hKy) H rfl ?_; clear H; intro w1 H)))
          go_loopw [8, 27] (fun bw j wr => ∃ m : Nat, m ≤ xs.length ∧ j = .int .i64 m ∧ bw = .bool (btw xs i k m) ∧ Holds E s (pt gy (.cells (tcells y.proc y.state y.from_ y.to vy).toArray 26 (0, 0)) :: kPr.Osl u3 (prsTo p xs.length i ++ rowTo (p i) i k) :: pt g (.cells (tcells x.proc x.state x.from_ x.to vx).toArray 26 (0, 0)) :: L) wr) (fun _ j _ => xs.length - (intOf j).toNat)
          case atStart => exact ⟨0, Nat.zero_le _, rfl, rfl, H⟩
          case round =>
            clear H
            obtain ⟨m, hm, rfl, hbw, H⟩ := hrel
            by_cases hltm : m < xs.length
            · obtain ⟨bbz, offz, cz, hez, hKz, hCz⟩ := hv0.elem m hltm
              cases hez
              obtain ⟨vz, rfl, -, -, -, -, -⟩ := kT_open hKz
              have hCz : Cells s ⟨b, off + m * 5, none⟩ _ := hCz
              have hxz : xs.getD m default = xs[m] := by rw [List.getD_eq_getElem?_getD, List.getElem?_eq_getElem hltm]; rfl
              have HXM := Lib.hid hxz
              generalize hgz : xs[m] = z at *
              clear hgz hxz
              have e1 : bfr xs i m = bef x.state x.to z.state z.from_ := by unfold bfr before; rw [HXI.out, HXM.out]
              have e2 : bfr xs m k = bef z.state z.to y.state y.from_ := by unfold bfr before; rw [HXM.out, HXK.out]
              have hstep : btw xs i k (m + 1) = (btw xs i k m || (bfr xs i m && bfr xs m k)) := rfl
              rw [e1, e2] at hstep
              obtain ⟨r1, hr1⟩ : ∃ r, bef x.state x.to z.state z.from_ = r := ⟨_, rfl⟩
              obtain ⟨r2, hr2⟩ : ∃ r, bef z.state z.to y.state y.from_ = r := ⟨_, rfl⟩
              rw [hr1, hr2] at hstep
              generalize btw xs i k m = r0 at *
              have HST := Lib.hid hstep
              have HXZ := Lib.hid hr1
              have HZY := Lib.hid hr2
              clear e1 e2 hstep hr1 hr2
              subst hbw
              cases r0 with
              | true =>
                go_wp2_with (first
                  | ((with_reducible refine OpG.list rfl ?_); first
                    | (refine G_sN _ _ rfl (Try.isAgg26 _) rfl H hCz (Try.sizeOf26 _) ?_)
                    | (refine G_alloc 26 rfl (Try.zeroValue26 _) H ?_; clear H; intro gn w1 H)
                    | (refine G_setN _ _ _ rfl (Try.sizeOf26 _) rfl rfl (kT.one hKz) H rfl ?_; clear H; intro w1 H)
                    | (refine G_pNi 0 _ _ rfl (Try.isAgg26 _) rfl H rfl (Try.sizeOf26 _) ?_)
                    | (refine G_pNi 1 _ _ rfl (Try.isAgg26 _) rfl H rfl (Try.sizeOf26 _) ?_)
                    | (refine G_pNi 3 _ _ rfl (Try.isAgg26 _) rfl H rfl (Try.sizeOf26 _) ?_))
                  | (go_at_call 15; refine (refBefore_spec _ _ _ _ _ _ _ _ _ _ H).mono ?_; clear H; rintro e w1 ⟨rfl, H⟩; (try simp only [HXZ.out])))
                go_roundw
                case rel => exact ⟨m + 1, by omega, by go_num, by rw [HST.out]; rfl, H.drop⟩
                case measure => simp [intOf]; omega
              | false =>
                cases r1 with
                | false =>
                  go_wp2_with (first
                    | ((with_reducible refine OpG.list rfl ?_); first
                      | (refine G_sN _ _ rfl (Try.isAgg26 _) rfl H hCz (Try.sizeOf26 _) ?_)
                      | (refine G_alloc 26 rfl (Try.zeroValue26 _) H ?_; clear H; intro gn w1 H)
                      | (refine G_setN _ _ _ rfl (Try.sizeOf26 _) rfl rfl (kT.one hKz) H rfl ?_; clear H; intro w1 H)
                      | (refine G_pNi 0 _ _ rfl (Try.isAgg26 _) rfl H rfl (Try.sizeOf26 _) ?_)
                      | (refine G_pNi 1 _ _ rfl (Try.isAgg26 _) rfl H rfl (Try.sizeOf26 _) ?_)
                      | (refine G_pNi 3 _ _ rfl (Try.isAgg26 _) rfl H rfl (Try.sizeOf26 _) ?_))
                    | (refine OpG.listW rfl ?_; first
                      | (refine G_pNi 0 _ _ rfl (Try.isAgg26 _) rfl H rfl (Try.sizeOf26 _) ?_)
                      | (refine G_pNi 1 _ _ rfl (Try.isAgg26 _) rfl H rfl (Try.sizeOf26 _) ?_)
                      | (refine G_pNi 3 _ _ rfl (Try.isAgg26 _) rfl H rfl (Try.sizeOf26 _) ?_))
                    | (go_at_call 15; refine (refBefore_spec _ _ _ _ _ _ _ _ _ _ H).mono ?_; clear H; rintro e w1 ⟨rfl, H⟩; (try simp only [HXZ.out])))
                  go_roundw
                  case rel => exact ⟨m + 1, by omega, by go_num, by rw [HST.out]; rfl, H.drop⟩
                  case measure => simp [intOf]; omega
                | true =>
                  go_wp2_with (first
                    | ((with_reducible refine OpG.list rfl ?_); first
                      | (refine G_sN _ _ rfl (Try.isAgg26 _) rfl H hCz (Try.sizeOf26 _) ?_)
                      | (refine G_alloc 26 rfl (Try.zeroValue26 _) H ?_; clear H; intro gn w1 H)
                      | (refine G_setN _ _ _ rfl (Try.sizeOf26 _) rfl rfl (kT.one hKz) H rfl ?_; clear H; intro w1 H)
                      | (refine G_pNi 0 _ _ rfl (Try.isAgg26 _) rfl H rfl (Try.sizeOf26 _) ?_)
                      | (refine G_pNi 1 _ _ rfl (Try.isAgg26 _) rfl H rfl (Try.sizeOf26 _) ?_)
                      | (refine G_pNi 3 _ _ rfl (Try.isAgg26 _) rfl H rfl (Try.sizeOf26 _) ?_))
                    | (refine OpG.listW rfl ?_; first
                      | (refine G_pNi 0 _ _ rfl (Try.isAgg26 _) rfl H rfl (Try.sizeOf26 _) ?_)
                      | (refine G_pNi 1 _ _ rfl (Try.isAgg26 _) rfl H rfl (Try.sizeOf26 _) ?_)
                      | (refine G_pNi 3 _ _ rfl (Try.isAgg26 _) rfl H rfl (Try.sizeOf26 _) ?_))
                    | (go_at_call 15; refine (refBefore_spec _ _ _ _ _ _ _ _ _ _ H).mono ?_; clear H; rintro e w1 ⟨rfl, H⟩; (try simp only [HXZ.out]); (try simp only [HZY.out])))
                  go_roundw
                  case rel => exact ⟨m + 1, by omega, by go_num, by rw [HST.out]; simp, H.drop⟩
                  case measure => simp [intOf]; omega
            · obtain rfl : m = xs.length := by omega
              have e1 : bfr xs i k = bef x.state x.to y.state y.from_ := by unfold bfr before; rw [HXI.out, HXK.out]
              have hrow : ∀ r : Bool, p i k = r → rowTo (p i) i (k + 1) = rowTo (p i) i k ++ if r then [((i : Int), (k : Int))] else [] := fun r hr => by rw [rowTo_succ, hr]
              rw [HPE.out, e1] at hrow
              obtain ⟨r1, hr1⟩ : ∃ r, bef x.state x.to y.state y.from_ = r := ⟨_, rfl⟩
              rw [hr1] at hrow
              generalize btw xs i k xs.length = r0 at *
              have HR := Lib.hid hrow
              have HXY := Lib.hid hr1
              clear hr1 e1 hrow
              subst hbw
              cases r1 with
              | false =>
                go_wp2_with (first
                  | ((with_reducible refine OpG.list rfl ?_); first
                    | (refine G_sN _ _ rfl (Try.isAgg26 _) rfl H hCy (Try.sizeOf26 _) ?_)
                    | (refine G_alloc 26 rfl (Try.zeroValue26 _) H ?_; clear H; intro gn w1 H)
                    | (refine G_setN _ _ _ rfl (Try.sizeOf26 _) rfl rfl (kT.one hKy) H rfl ?_; clear H; intro w1 H)
                    | (refine G_pNi 0 _ _ rfl (Try.isAgg26 _) rfl H rfl (Try.sizeOf26 _) ?_)
                    | (refine G_pNi 2 _ _ rfl (Try.isAgg26 _) rfl H rfl (Try.sizeOf26 _) ?_))
                  | (go_at_call 15; refine (refBefore_spec _ _ _ _ _ _ _ _ _ _ H).mono ?_; clear H; rintro e w1 ⟨rfl, H⟩; (try simp only [HXY.out])))
                go_roundw
                case rel => exact ⟨k + 1, by omega, by go_num, by rw [HR.out _ rfl]; simpa using H.drop⟩
                case measure => simp [intOf]; omega
              | true =>
                cases r0 with
                | true =>
                  go_wp2_with (first
                    | ((with_reducible refine OpG.list rfl ?_); first
                      | (refine G_sN _ _ rfl (Try.isAgg26 _) rfl H hCy (Try.sizeOf26 _) ?_)
                      | (refine G_alloc 26 rfl (Try.zeroValue26 _) H ?_; clear H; intro gn w1 H)
                      | (refine G_setN _ _ _ rfl (Try.sizeOf26 _) rfl rfl (kT.one hKy) H rfl ?_; clear H; intro w1 H)
                      | (refine G_pNi 0 _ _ rfl (Try.isAgg26 _) rfl H rfl (Try.sizeOf26 _) ?_)
                      | (refine G_pNi 2 _ _ rfl (Try.isAgg26 _) rfl H rfl (Try.sizeOf26 _) ?_))
                    | (go_at_call 15; refine (refBefore_spec _ _ _ _ _ _ _ _ _ _ H).mono ?_; clear H; rintro e w1 ⟨rfl, H⟩; (try simp only [HXY.out])))
                  go_roundw
                  case rel => exact ⟨k + 1, by omega, by go_num, by rw [HR.out _ rfl]; simpa using H.drop⟩
                  case measure => simp [intOf]; omega
                | false =>
                  go_wp2_with (first
                    | ((with_reducible refine OpG.list rfl ?_); first
                      | (refine G_sN _ _ rfl (Try.isAgg26 _) rfl H hCy (Try.sizeOf26 _) ?_)
                      | (refine G_alloc 26 rfl (Try.zeroValue26 _) H ?_; clear H; intro gn w1 H)
                      | (refine G_setN _ _ _ rfl (Try.sizeOf26 _) rfl rfl (kT.one hKy) H rfl ?_; clear H; intro w1 H)
                      | (refine G_pNi 0 _ _ rfl (Try.isAgg26 _) rfl H rfl (Try.sizeOf26 _) ?_)
                      | (refine G_pNi 2 _ _ rfl (Try.isAgg26 _) rfl H rfl (Try.sizeOf26 _) ?_)
                      | (refine G_slice1 (v := Value.agg _) rfl rfl Try.underlying30 Try.sizeOf32 Try.zeroValue32 rfl rfl (by decide) (by decide) H ?_; clear H; intro g2 w4 H; replace H := (kPr_mkM H.swap.drop i k (by constructor <;> omega) (by constructor <;> omega)).rot3)
                      | (refine G_append1 kPr_at _ _ rfl H rfl rfl ?_ ?_; (case refine_1 => show (_ + 1) * 16 ≤ _; have := HBD.out; omega); clear H; intro v5 w5 H))
                    | (go_at_call 15; refine (refBefore_spec _ _ _ _ _ _ _ _ _ _ H).mono ?_; clear H; rintro e w1 ⟨rfl, H⟩; (try simp only [HXY.out])))
                  go_roundw
                  case rel => exact ⟨k + 1, by omega, by go_num, by rw [HR.out _ rfl]; simpa [List.append_assoc] using H⟩
                  case measure => simp [intOf]; omega
        · go_wp2
          go_roundw
          case rel => exact ⟨i + 1, by omega, by go_num, by
            rw [prsTo_succ]
            obtain rfl : k = xs.length := by omega
            exact H.swap.drop⟩
          case measure => simp [intOf]; omega
    · go_wp2
      go_ret
      obtain rfl : i = xs.length := by omega
      exact ⟨_, rfl, H⟩
end Go.Proofs.Ytkppfcfnpajpbaa
