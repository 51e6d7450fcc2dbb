/- 'right': a copy of the first transactions whose ends are not below their beginnings. -/
import Derived.Test.YtkppfcfnpajpbaaRtB
namespace Go.Proofs.Ytkppfcfnpajpbaa
open Go.RowKit
set_option linter.all false
@[go_sem] theorem eqnil_T (w : World) (a : Option Addr) (n c : Nat) : (binOp .eql 22 (.slice a n c) (.slice none 0 0)).run Try.prog w = .ok (.bool a.isNone) w := Lib.run_eql_slice_nil w _ _ a n c 0 0 Try.underlying22

set_option maxHeartbeats 400000 in
theorem cloneT_spec {E : World} {s : SH} {L : List HP} {w : World} {v : Value} {xs : List Txn} (H : Holds E s L w) (hv : kT.Sl s v xs) :
    Calls Try.prog 22 #[v] w fun e w' => ∃ v', e = .returned v' ∧ Holds E s ((kT.sh s).Osl v' xs :: L) w' := by
  have hv0 := hv
  obtain ⟨A, cap, rfl, h1, h2, h3⟩ := hv
  cases A with
  | none =>
    have : xs = [] := Classical.byContradiction fun hx => by obtain ⟨b, off, cur, e, fr, k, _⟩ := h3 hx; cases k
    subst this
    go_enter Try.func22, Try.ntmps22
    go_wp2
    go_ret
    exact ⟨_, rfl, Kin.Osl.nil H⟩
  | some ad =>
    go_enter Try.func22, Try.ntmps22
    go_wp2_with (first | ((with_reducible refine OpG.list rfl ?_); refine G_slice0 (d := kT.sh s) rfl Try.underlying22 Try.sizeOf26 H ?_; intro v1 w1 H1) | ((with_reducible refine OpG.list rfl ?_); refine G_appendS kT_at _ _ rfl H1 hv0 rfl rfl (by simpa using h2) ?_; intro v2 w2 H2; simp only [List.nil_append] at H2))
    go_ret
    exact ⟨_, rfl, H2⟩

theorem i64wrap (n : Int) : IntKind.i64.wrap n = wrap64 n := by
  simp [IntKind.wrap, IntKind.bits, IntKind.signed, wrap64]; split <;> omega
theorem u64_mod (x n : Int) (h0 : 0 < n) (h1 : n ≤ 1000) : 0 ≤ wrap64 ((IntKind.u64.wrap x).tmod n) ∧ wrap64 ((IntKind.u64.wrap x).tmod n) < n := by
  have hw : 0 ≤ IntKind.u64.wrap x := by simp [IntKind.wrap, IntKind.bits, IntKind.signed]; omega
  rw [Int.tmod_eq_emod_of_nonneg hw]
  have h2 := Int.emod_nonneg (IntKind.u64.wrap x) (b := n) (by omega)
  have h3 := Int.emod_lt_of_pos (IntKind.u64.wrap x) h0
  generalize IntKind.u64.wrap x % n = r at *
  unfold wrap64; omega
/-- What holds of the transactions that come out. -/
def Okay (t : Txn) : Prop := 0 ≤ t.from_ ∧ t.from_ ≤ t.to ∧ t.to ≤ 2000
def rightU (xs ys : List Txn) (k : Nat) : Prop := ys.length = xs.length ∧ (∀ i (h : i < ys.length), i < k → Okay ys[i]) ∧ (∀ i, k ≤ i → ys[i]? = xs[i]?)

set_option maxHeartbeats 2000000 in
theorem right_spec {E : World} {s : SH} {L : List HP} {w : World} {v : Value} {xs : List Txn} (H : Holds E s L w) (hv : kT.Sl s v xs) :
    Calls Try.prog 9 #[v] w fun e w' => ∃ v' s' ys, e = .returned v' ∧ Sub s s' ∧ Holds E s' L w' ∧ kT.Sl s' v' ys ∧ (∀ y ∈ ys, Okay y) ∧ ys.length ≤ 25 := by
  have hv0 := hv
  obtain ⟨A, cap, rfl, h1, h2, -⟩ := hv
  have h2' : xs.length * 56 ≤ 140737488355328 := h2
  clear h2
  obtain ⟨m, hm⟩ : ∃ m, m = min 25 xs.length := ⟨_, rfl⟩
  have hmin : (if (25 : Int) < (xs.length : Int) then (25 : Int) else (xs.length : Int)) = (m : Int) := by split <;> omega
  have hmx : m ≤ xs.length := by omega
  have hm25 : m ≤ 25 := by omega
  have hmc : m ≤ cap := by omega
  have hsl := hv0.take m hmx
  have hlen : (xs.take m).length = m := by rw [List.length_take]; omega
  clear hm
  go_enter Try.func9, Try.ntmps9
  go_wp2_with (go_at_call 22; refine (cloneT_spec H hsl).mono ?_; rintro e w1 ⟨v1, rfl, H⟩; obtain ⟨B, capB, hv1, hb1, -, -⟩ := H.len; subst hv1)
  rw [hlen] at hb1
  go_loopw [13] (fun i wr => ∃ k : Nat, k ≤ m ∧ i = .int .i64 k ∧ ∃ ys, rightU (xs.take m) ys k ∧ ∃ s', Sub s s' ∧ Holds E s' ((kT.sh s).Osl (.slice B m capB) ys :: L) wr) (fun i _ => m - (intOf i).toNat)
  case atStart => exact ⟨0, Nat.zero_le _, rfl, xs.take m, ⟨rfl, fun i h hi => by omega, fun i _ => rfl⟩, s, Sub.refl s, by rw [hlen] at H; exact H⟩
  case round =>
    clear H
    obtain ⟨k, hk, rfl, ys, hys, s1, hs1, H⟩ := hrel
    have hyl : ys.length = m := by rw [hys.1, hlen]
    by_cases hlt : k < m
    · have hk1 : k < ys.length := by rw [hyl]; exact hlt
      obtain ⟨b, cap2, cur, c, R, hv1, hcs, hcz, H2, hcell, hcl, hput⟩ := Kin.Osl.focus H k hk1
      rw [hyl] at hv1
      cases hv1
      obtain ⟨hK, H3⟩ := Holds.pure_ (A := Go.Proofs.Ytkppfcfnpajpbaa.emp) H2.swap
      obtain ⟨v2, rfl, hsl2, hr1, hr2, hr3, hr4⟩ := kT_open hK
      have H := H3.emp
      clear H2 H3 hK
      generalize hx : ys[k] = x at *
      have HX := Lib.hid hx
      have HYS := Lib.hid hys
      clear hx hys
      have hu2 : cur[k * 5 + 2]? = some (.int .i64 x.from_) := hcell 2 _ rfl
      have hu3 : cur[k * 5 + 3]? = some (.int .i64 x.to) := hcell 3 _ rfl
      have hcz5 : k * 5 + 5 ≤ cur.size := hcz
      obtain ⟨F, hF⟩ : ∃ F, wrap64 ((IntKind.u64.wrap x.from_).tmod 1000) = F := ⟨_, rfl⟩
      obtain ⟨T, hT⟩ : ∃ T, wrap64 ((IntKind.u64.wrap x.to).tmod 50) = T := ⟨_, rfl⟩
      obtain ⟨hF0, hF1⟩ := u64_mod x.from_ 1000 (by omega) (by omega)
      obtain ⟨hT0, hT1⟩ := u64_mod x.to 50 (by omega) (by omega)
      rw [hF] at hF0 hF1
      rw [hT] at hT0 hT1
      have hv2 : (cur.setIfInBounds (k * 5 + 2) (.int .i64 F))[k * 5 + 2]? = some (.int .i64 F) := by rw [Array.getElem?_setIfInBounds, if_pos rfl, if_pos (by omega)]
      have hv3 : (cur.setIfInBounds (k * 5 + 2) (.int .i64 F))[k * 5 + 3]? = some (.int .i64 x.to) := by rw [Array.getElem?_setIfInBounds_ne (by omega)]; exact hu3
      have hFT : wrap64 (F + T) = F + T := by unfold wrap64; omega
      go_wp2_with (first
        | ((with_reducible refine OpG.list rfl ?_); first
          | (refine G_p1 _ _ rfl (Try.isAgg3 _) rfl H hu2 ?_)
          | (refine G_set1 (v := Value.int .i64 _) _ _ _ rfl (Try.sizeOf3 _) rfl rfl rfl H (by omega) ?_; clear H; intro w3 H; (try simp only [hF] at H))))
      refine wp_draw_ob (k := 16) (sz := 48) mixed (by simp) rfl (by kernel_rfl) (by kernel_rfl) H (by simp only [List.take_succ_cons, List.take_zero]; exact rfl) (by simp only [List.drop_succ_cons, List.drop_zero]; exact rfl)
        (fun y => by simp only [ov, Act.put, List.setIfInBounds_toArray, List.set_cons_succ, List.set_cons_zero]; exact rfl) ?_
      iterate 16 (apply Ob.val; (intro s' w' y Φ hs H hG hΦ; simp [dh, isV, dep, Region.binds] at hG; (try simp only [hG]); refine wantG rfl ?_; first | (refine G_p1 _ _ rfl (Try.isAgg3 _) rfl H hv2 ?_; exact hΦ) | (refine G_p1 _ _ rfl (Try.isAgg3 _) rfl H hv3 ?_; exact hΦ) | (go_simp; exact hΦ)))
      clear H
      intro s4 w4 y hs4 H hG
      simp [gh, isV] at hG
      simp only [hG]
      clear hG
      go_wp2_with (first
        | ((with_reducible refine OpG.list rfl ?_); first
          | (refine G_set1 (v := Value.int .i64 _) _ _ _ rfl (Try.sizeOf3 _) rfl rfl rfl H (by simp; omega) ?_; clear H; intro w5 H; (try simp only [i64wrap, hFT, hT, hF] at H))))
      go_roundw
      case rel =>
        have hy := HYS.out
        have hres := hput s4 L w5 { x with from_ := F, to := F + T } [.int .i64 x.proc, .int .i64 x.state, .int .i64 F, .int .i64 (F + T), v2] _ (by simp) (fun i hi => ?_) (fun j hj => ?_) (Holds.swap (Holds.map (A := Go.Proofs.Ytkppfcfnpajpbaa.emp) (fun h e => ⟨kT_mk (x := { x with from_ := F, to := F + T }) hsl2 hr1 hr2 (by constructor <;> simp only <;> omega) (by constructor <;> simp only <;> omega), e⟩) H.mkEmp))
        · refine ⟨k + 1, by omega, by go_num, _, ⟨by rw [List.length_set]; exact hy.1, fun i h hi => ?_, fun i hi => ?_⟩, s4, hs1.trans hs4, hres⟩
          · rw [List.getElem_set]
            split
            · exact ⟨hF0, by simp only; omega, by simp only; omega⟩
            · exact hy.2.1 i (by simpa using h) (by omega)
          · rw [List.getElem?_set_ne (by omega)]; exact hy.2.2 i (by omega)
        · have hi' : i < k * 5 ∨ (k + 1) * 5 ≤ i := hi
          rw [Array.getElem?_setIfInBounds_ne (by omega), Array.getElem?_setIfInBounds_ne (by omega)]
        · have hj' : j < 5 := hj
          show ((cur.setIfInBounds (k * 5 + 2) (Value.int IntKind.i64 F)).setIfInBounds (k * 5 + 3) (Value.int IntKind.i64 (F + T)))[k * 5 + j]? = _
          match j, hj' with
          | 0, _ => rw [Array.getElem?_setIfInBounds_ne (by omega), Array.getElem?_setIfInBounds_ne (by omega)]; exact hcell 0 _ rfl
          | 1, _ => rw [Array.getElem?_setIfInBounds_ne (by omega), Array.getElem?_setIfInBounds_ne (by omega)]; exact hcell 1 _ rfl
          | 2, _ => rw [Array.getElem?_setIfInBounds_ne (by omega), Array.getElem?_setIfInBounds, if_pos rfl, if_pos (by omega)]; rfl
          | 3, _ => rw [Array.getElem?_setIfInBounds, if_pos rfl, if_pos (by simp; omega)]; rfl
          | 4, _ => rw [Array.getElem?_setIfInBounds_ne (by omega), Array.getElem?_setIfInBounds_ne (by omega)]; exact hcell 4 _ rfl
      case measure => simp [intOf]; omega
    · obtain rfl : k = m := by omega
      clear hlt
      obtain ⟨s2, hs2, H, hfin⟩ := Kin.Osl.fr H
      go_wp2
      go_ret
      refine ⟨_, s2, ys, rfl, hs1.trans hs2, H, hfin.unsh (hs1.trans hs2), fun y hy => ?_, by omega⟩
      obtain ⟨i, hi, rfl⟩ := List.getElem_of_mem hy
      exact hys.2.1 i hi (by omega)
end Go.Proofs.Ytkppfcfnpajpbaa
