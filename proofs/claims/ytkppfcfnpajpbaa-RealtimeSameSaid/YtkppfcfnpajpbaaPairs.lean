/- Pairs of transactions: the lists that realtime.pairs and the references make. -/
import Derived.Test.YtkppfcfnpajpbaaRtB
namespace Go.Proofs.Ytkppfcfnpajpbaa
open Go.RowKit
set_option linter.all false

def kPr : Kin (Int × Int) := Kin.iso (Kin.pair (Kin.int 3) (Kin.int 3)) id 16 32
theorem kPr_at : kPr.At Try.prog 30 := ⟨Try.underlying30, by decide, _, _, Try.type32, rfl, rfl, rfl, rfl⟩
theorem kPr_mkM {E : World} {s : SH} {L : List HP} {w : World} (H : Holds E s L w) (i k : Int) (h1 : Kin.inI64 i) (h2 : Kin.inI64 k) : Holds E s (kPr.M (i, k) [.int .i64 i, .int .i64 k] :: L) w :=
  H.mkEmp.map fun h e => ⟨[_], [_], rfl, emp_star_pure ⟨rfl, h1⟩ ⟨⟨rfl, h2⟩, e⟩⟩

/-- Of the places up to k those of which p holds, behind place i. -/
def rowTo (p : Nat → Bool) (i k : Nat) : List (Int × Int) := ((List.range k).filter p).map fun (k : Nat) => ((i : Int), (k : Int))
def prsTo (p : Nat → Nat → Bool) (n i : Nat) : List (Int × Int) := (List.range i).flatMap fun i => rowTo (p i) i n
theorem rowTo_succ (p : Nat → Bool) (i k : Nat) : rowTo p i (k + 1) = rowTo p i k ++ if p k then [((i : Int), (k : Int))] else [] := by
  unfold rowTo
  rw [List.range_succ, List.filter_append, List.map_append]
  cases h : p k <;> simp [List.filter_cons, h]
theorem prsTo_succ (p : Nat → Nat → Bool) (n i : Nat) : prsTo p n (i + 1) = prsTo p n i ++ rowTo (p i) i n := by
  unfold prsTo
  rw [List.range_succ, List.flatMap_append]; simp
theorem rowTo_len (p : Nat → Bool) (i k : Nat) : (rowTo p i k).length ≤ k := by
  unfold rowTo; rw [List.length_map]; exact Nat.le_trans (List.length_filter_le _ _) (by simp)
theorem prsTo_len (p : Nat → Nat → Bool) (n : Nat) : ∀ i, (prsTo p n i).length ≤ i * n
  | 0 => by simp [prsTo]
  | i + 1 => by rw [prsTo_succ, List.length_append, Nat.succ_mul]; have := prsTo_len p n i; have := rowTo_len (p i) i n; omega
theorem prs_bound (p : Nat → Nat → Bool) (n i k : Nat) (hi : i < n) (hk : k < n) (hn : n ≤ 1000) : (prsTo p n i ++ rowTo (p i) i k).length + 1 ≤ 1000000 := by
  rw [List.length_append]
  have h1 := prsTo_len p n i
  have h2 := rowTo_len (p i) i k
  have h3 : (i + 1) * n ≤ 1000 * 1000 := Nat.mul_le_mul (by omega) hn
  rw [Nat.succ_mul] at h3
  omega
def bfr (xs : List Txn) (i k : Nat) : Bool := before (xs.getD i default) (xs.getD k default)

set_option maxHeartbeats 8000000 in
theorem pairs_spec {E : World} {s : SH} {L : List HP} {w : World} {v : Value} {xs : List Txn} (H : Holds E s L w) (hv : kT.Sl s v xs) (hn : xs.length ≤ 1000) (g : Nat) (cap : Array Value)
    (hen : ∀ args w, (callFunc g args).run Try.prog w = .ok (.enter g args) w) (q : Nat → Nat → Bool)
    (hf : ∀ i k, i < xs.length → k < xs.length → ∀ (s' : SH) (R : HP) (w : World), Sub s s' → Holds E s' (R :: L) w → Calls Try.prog g (#[.int .i64 i, .int .i64 k] ++ cap) w fun e w' => e = .returned (.bool (q i k)) ∧ Holds E s' (R :: L) w') :
    Calls Try.prog 26 #[v, .func (.func g) #[] cap] w fun e w' => ∃ v' s', e = .returned v' ∧ Sub s s' ∧ Holds E s' (kPr.Osl v' (prsTo (fun i k => bfr xs i k && q i k) xs.length xs.length) :: L) w' := by
  have hv0 := hv
  obtain ⟨A, capv, rfl, h1, h2, -⟩ := hv
  clear h2
  have hnil := Kin.Osl.nil (d := kPr) H
  clear H
  have HF := Lib.hid hf
  clear hf
  go_enter Try.func26, Try.ntmps26
  go_wp2
  go_loopw [5, 10] (fun out i wr => ∃ k : Nat, k ≤ xs.length ∧ i = .int .i64 k ∧ ∃ s', Sub s s' ∧ Holds E s' (kPr.Osl out (prsTo (fun i k => bfr xs i k && q i k) xs.length k) :: L) wr) (fun _ i _ => xs.length - (intOf i).toNat)
  case atStart => exact ⟨0, Nat.zero_le _, rfl, s, Sub.refl s, hnil⟩
  case round =>
    clear hnil
    obtain ⟨i, hi, rfl, s1, hs1, H⟩ := hrel
    by_cases hlt : i < xs.length
    · obtain ⟨b, off, c, rfl, hK, hC⟩ := hv0.elem i hlt
      obtain ⟨vx, rfl, -, -, -, -, -⟩ := kT_open hK
      have hC : Cells s ⟨b, off + i * 5, none⟩ _ := hC
      have hxi : xs.getD i default = xs[i] := by rw [List.getD_eq_getElem?_getD, List.getElem?_eq_getElem hlt]; rfl
      have HXI := Lib.hid hxi
      generalize hx : xs[i] = x at *
      clear hx hxi hK
      go_wp2
      go_loopw [5, 15] (fun out j wr => ∃ k : Nat, k ≤ xs.length ∧ j = .int .i64 k ∧ ∃ s', Sub s s' ∧ Holds E s' (kPr.Osl out (prsTo (fun i k => bfr xs i k && q i k) xs.length i ++ rowTo (fun k => bfr xs i k && q i k) i k) :: L) wr) (fun _ j _ => xs.length - (intOf j).toNat)
      case atStart => exact ⟨0, Nat.zero_le _, rfl, s1, hs1, by simpa [rowTo] using H⟩
      case round =>
        clear H
        obtain ⟨k, hk, rfl, s2, hs2, H⟩ := hrel
        by_cases hltk : k < xs.length
        · obtain ⟨b', off', c', he, hK', hC'⟩ := hv0.elem k hltk
          cases he
          obtain ⟨vy, rfl, -, -, -, -, -⟩ := kT_open hK'
          have hC' : Cells s ⟨b, off + k * 5, none⟩ _ := hC'
          have hyk : xs.getD k default = xs[k] := by rw [List.getD_eq_getElem?_getD, List.getElem?_eq_getElem hltk]; rfl
          have HYK := Lib.hid hyk
          generalize hy : xs[k] = y at *
          clear hy hyk hK'
          have hB : ∀ (s : SH) L (w : World), Holds E s L w → Calls Try.prog 10 #[tv x.proc x.state x.from_ x.to vx, tv y.proc y.state y.from_ y.to vy] w fun e w' => e = .returned (.bool (bef x.state x.to y.state y.from_)) ∧ Holds E s L w' := fun s L w H => before_spec _ _ _ _ _ _ _ _ _ _ H
          have hbf : bfr xs i k = bef x.state x.to y.state y.from_ := by unfold bfr before; rw [HXI.out, HYK.out]
          have hq := HF.out i k hlt hltk
          have hbd := prs_bound (fun i k => bfr xs i k && q i k) xs.length i k hlt hltk hn
          have HBD := Lib.hid hbd
          clear hbd
          have hrow : ∀ r : Bool, (bfr xs i k && q i k) = r → rowTo (fun k => bfr xs i k && q i k) i (k + 1) = rowTo (fun k => bfr xs i k && q i k) i k ++ if r then [((i : Int), (k : Int))] else [] := fun r hr => by rw [rowTo_succ]; simp only [hr]
          rw [hbf] at hrow
          generalize bef x.state x.to y.state y.from_ = rb at *
          generalize q i k = rq at *
          have HB := Lib.hid hB
          have HQ := Lib.hid hq
          have HR := Lib.hid hrow
          clear hB hbf hq hrow
          cases rb with
          | false =>
            go_wp2_with fail
            refine wp_draw_ob (k := 15) (sz := 42) mixed (by simp) rfl (by kernel_rfl) (by kernel_rfl) H (by simp only [List.take_succ_cons, List.take_zero]; exact rfl) (by simp only [List.drop_succ_cons, List.drop_zero]; exact rfl)
              (fun y => by simp only [ov, Act.put, List.setIfInBounds_toArray, List.set_cons_succ, List.set_cons_zero]; exact rfl) ?_
            iterate 15 (apply Ob.valw; (intro s' w' y Φ hs H hG hΦ; simp [dh, isV, dep, Region.binds] at hG; (try simp only [hG]); first
              | (refine wantN rfl ?_; exact hΦ _ _ (Sub.refl _) H)
              | (refine wantY rfl ?_; first
                | (refine G_sN _ _ rfl (Try.isAgg26 _) rfl H (hC.mono (hs2.trans hs)) (Try.sizeOf26 _) ?_; exact hΦ _ _ (Sub.refl _) H)
                | (refine G_sN _ _ rfl (Try.isAgg26 _) rfl H (hC'.mono (hs2.trans hs)) (Try.sizeOf26 _) ?_; exact hΦ _ _ (Sub.refl _) H)
                | (go_simp; first | (exact hΦ _ _ (Sub.refl _) H) | (refine (HB.out _ _ _ H).mono ?_; rintro e w1 ⟨rfl, H1⟩; exact ⟨_, rfl, hΦ _ _ (Sub.refl _) H1⟩)))))
            clear H
            intro s3 w3 y hs3 H hG
            simp [gh, isV] at hG
            simp only [hG]
            clear hG
            go_wp2
            go_roundw
            case rel => exact ⟨k + 1, by omega, by go_num, s3, hs2.trans hs3, by rw [HR.out _ rfl]; simpa using H⟩
            case measure => simp [intOf]; omega
          | true =>
            cases rq with
            | false =>
              go_wp2_with fail
              refine wp_draw_ob (k := 15) (sz := 42) mixed (by simp) rfl (by kernel_rfl) (by kernel_rfl) H (by simp only [List.take_succ_cons, List.take_zero]; exact rfl) (by simp only [List.drop_succ_cons, List.drop_zero]; exact rfl)
                (fun y => by simp only [ov, Act.put, List.setIfInBounds_toArray, List.set_cons_succ, List.set_cons_zero]; exact rfl) ?_
              iterate 15 (apply Ob.valw; (intro s' w' y Φ hs H hG hΦ; simp [dh, isV, dep, Region.binds] at hG; (try simp only [hG]); first
                | (refine wantN rfl ?_; exact hΦ _ _ (Sub.refl _) H)
                | (refine wantY rfl ?_; first
                  | (refine G_sN _ _ rfl (Try.isAgg26 _) rfl H (hC.mono (hs2.trans hs)) (Try.sizeOf26 _) ?_; exact hΦ _ _ (Sub.refl _) H)
                  | (refine G_sN _ _ rfl (Try.isAgg26 _) rfl H (hC'.mono (hs2.trans hs)) (Try.sizeOf26 _) ?_; exact hΦ _ _ (Sub.refl _) H)
                  | (go_simp; first | (exact hΦ _ _ (Sub.refl _) H) | (refine (HB.out _ _ _ H).mono ?_; rintro e w1 ⟨rfl, H1⟩; exact ⟨_, rfl, hΦ _ _ (Sub.refl _) H1⟩) | (refine (HQ.out _ _ _ (hs2.trans hs) H).mono ?_; rintro e w1 ⟨rfl, H1⟩; exact ⟨_, rfl, hΦ _ _ (Sub.refl _) H1⟩)))))
              clear H
              intro s3 w3 y hs3 H hG
              simp [gh, isV] at hG
              simp only [hG]
              clear hG
              go_wp2
              go_roundw
              case rel => exact ⟨k + 1, by omega, by go_num, s3, hs2.trans hs3, by rw [HR.out _ rfl]; simpa using H⟩
              case measure => simp [intOf]; omega
            | true =>
              go_wp2_with fail
              refine wp_draw_ob (k := 15) (sz := 42) mixed (by simp) rfl (by kernel_rfl) (by kernel_rfl) H (by simp only [List.take_succ_cons, List.take_zero]; exact rfl) (by simp only [List.drop_succ_cons, List.drop_zero]; exact rfl)
                (fun y => by simp only [ov, Act.put, List.setIfInBounds_toArray, List.set_cons_succ, List.set_cons_zero]; exact rfl) ?_
              iterate 15 (apply Ob.valw; (intro s' w' y Φ hs H hG hΦ; simp [dh, isV, dep, Region.binds] at hG; (try simp only [hG]); first
                | (refine wantN rfl ?_; exact hΦ _ _ (Sub.refl _) H)
                | (refine wantY rfl ?_; first
                  | (refine G_sN _ _ rfl (Try.isAgg26 _) rfl H (hC.mono (hs2.trans hs)) (Try.sizeOf26 _) ?_; exact hΦ _ _ (Sub.refl _) H)
                  | (refine G_sN _ _ rfl (Try.isAgg26 _) rfl H (hC'.mono (hs2.trans hs)) (Try.sizeOf26 _) ?_; exact hΦ _ _ (Sub.refl _) H)
                  | (go_simp; first | (exact hΦ _ _ (Sub.refl _) H) | (refine (HB.out _ _ _ H).mono ?_; rintro e w1 ⟨rfl, H1⟩; exact ⟨_, rfl, hΦ _ _ (Sub.refl _) H1⟩) | (refine (HQ.out _ _ _ (hs2.trans hs) H).mono ?_; rintro e w1 ⟨rfl, H1⟩; exact ⟨_, rfl, hΦ _ _ (Sub.refl _) H1⟩)))))
              clear H
              intro s3 w3 y hs3 H hG
              simp [gh, isV] at hG
              simp only [hG]
              clear hG
              go_wp2_with (first
                | ((with_reducible refine OpG.list rfl ?_); first
                  | (refine G_slice1 (v := Value.agg _) rfl rfl Try.underlying30 Try.sizeOf32 Try.zeroValue32 rfl rfl (by decide) (by decide) H ?_; clear H; intro g2 w4 H; replace H := (kPr_mkM H i k (by constructor <;> omega) (by constructor <;> omega)).rot3)
                  | (refine G_append1 kPr_at _ _ rfl H rfl rfl ?_ ?_; (case refine_1 => show (_ + 1) * 16 ≤ _; have := HBD.out; omega); clear H; intro v5 w5 H)))
              go_roundw
              case rel => exact ⟨k + 1, by omega, by go_num, s3, hs2.trans hs3, by rw [HR.out _ rfl]; simpa [List.append_assoc] using H⟩
              case measure => simp [intOf]; omega
        · go_wp2
          go_roundw
          case rel => exact ⟨i + 1, by omega, by go_num, s2, hs2, by
            rw [prsTo_succ]
            obtain rfl : k = xs.length := by omega
            exact H⟩
          case measure => simp [intOf]; omega
    · go_wp2
      go_ret
      obtain rfl : i = xs.length := by omega
      exact ⟨_, s1, rfl, hs1, H⟩
end Go.Proofs.Ytkppfcfnpajpbaa
