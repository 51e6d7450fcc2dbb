/- Sparse pairs: what holds of a pair. -/
import Derived.Test.YtkppfcfnpajpbaaSparse
namespace Go.Proofs.Ytkppfcfnpajpbaa
open Go.RowKit
set_option linter.all false

/-- What stays may be forgotten. -/
theorem Holds.weak {E : World} {s s' : SH} {L : List HP} {w : World} (hs : Sub s s') (H : Holds E s' L w) : Holds E s L w := by
  obtain ⟨h, k, d, r1, r2⟩ := H.ex
  refine ⟨H.os, H.tape, H.output, h, k, fun b => ?_, fun b o hb => r1 b o (hs b o hb), r2⟩
  cases e : s b with
  | none => exact .inl rfl
  | some o =>
    rcases d b with h' | h'
    · rw [hs b o e] at h'; cases h'
    · exact .inr h'

set_option maxHeartbeats 8000000 in
theorem sparse1_spec {E : World} {s : SH} {L : List HP} {w : World} {v ve : Value} {xs : List Txn} {b1 b3 : Nat} (hn : xs.length ≤ 1000) (hv : kT.Sl s v xs) (hb1 : s b1 = some (.cells #[v] 22 (0, 0))) (hb3 : s b3 = some (.cells #[ve] 42 (0, 0)))
    (he : kI.Sl s ve (endsTo xs xs.length)) (i k : Nat) (hi : i < xs.length) (hk : k < xs.length) (H : Holds E s L w) :
    Calls Try.prog 28 #[.int .i64 i, .int .i64 k, .pointer (some ⟨b3, 0, none⟩), .pointer (some ⟨b1, 0, none⟩)] w fun e w' => e = .returned (.bool (spq xs i k)) ∧ Holds E s L w' := by
  have hv0 := hv
  obtain ⟨A, capv, rfl, h1, h2, -⟩ := hv
  clear h2
  have he0 := he
  obtain ⟨Ae, cape, rfl, h3, h4, -⟩ := he
  clear h4
  rw [endsTo_len] at h3
  have hi' : i < (endsTo xs xs.length).length := by rw [endsTo_len]; exact hi
  obtain ⟨be, offe, ce, rfl, hKe, hCe⟩ := he0.elem i hi'
  have hei : (endsTo xs xs.length)[i] = ev (bestTo xs i xs.length) := by simp [endsTo, hi]
  obtain ⟨rfl, -⟩ := hKe
  rw [hei] at hCe
  have hoff : offe + i * kI.sz = offe + i := by show offe + i * 1 = _; omega
  rw [hoff] at hCe
  rw [endsTo_len] at he0 hb3
  have hc1 := Cells.of_s (cs := [_]) hb1
  have hc3 := Cells.of_s (cs := [_]) hb3
  have hlen := endsTo_len xs xs.length
  have HLE := Lib.hid hlen
  clear hei hoff hlen hi' he0
  have hlt := bestTo_lt xs i xs.length
  have hsp : spq xs i k = match bestTo xs i xs.length with | none => true | some j => !bfr xs j k := rfl
  generalize bestTo xs i xs.length = bo at *
  have HSP := Lib.hid hsp
  clear hsp hb1 hb3
  clear HLE
  cases bo with
  | none =>
    have hCe : Cells s ⟨be, offe + i, none⟩ [.int .i64 (-1)] := hCe
    go_enter Try.func28, Try.ntmps28
    go_wp2_with fail
    refine wp_draw_ob (k := 20) (sz := 27) mixed (by simp) rfl (by kernel_rfl) (by kernel_rfl) H (by simp only [List.take_succ_cons, List.take_zero]; exact rfl) (by simp only [List.drop_succ_cons, List.drop_zero]; exact rfl)
      (fun y => by simp only [ov, Act.put, List.setIfInBounds_toArray, List.set_cons_succ, List.set_cons_zero]; exact rfl) ?_
    iterate 20 (apply Ob.valw; (intro s' w' y Φ hs H hG hΦ; simp [dh, isV, dep, Region.binds] at hG; (try simp only [hG]); first
      | (refine wantN rfl ?_; exact hΦ _ _ (Sub.refl _) H)
      | (refine wantY rfl ?_; first
        | (refine G_s1 _ _ rfl (Try.isAgg42 _) rfl H (hc3.mono hs) 0 rfl rfl ?_; exact hΦ _ _ (Sub.refl _) H)
        | (refine G_s1 _ _ rfl (Try.isAgg3 _) rfl H (hCe.mono hs) 0 rfl rfl ?_; exact hΦ _ _ (Sub.refl _) H)
        | (go_simp; first | (exact hΦ _ _ (Sub.refl _) H)))))
    clear H
    intro s3 w3 yy hs3 H hG
    simp [gh, isV] at hG
    simp only [hG]
    clear hG
    go_wp2
    go_ret
    exact ⟨by rw [HSP.out]; rfl, H.weak hs3⟩
  | some j =>
    have hCe : Cells s ⟨be, offe + i, none⟩ [.int .i64 (j : Int)] := hCe
    have hj := hlt j rfl
    obtain ⟨b, off, c, rfl, hKj, hCj⟩ := hv0.elem j hj
    obtain ⟨vj, rfl, -, -, -, -, -⟩ := kT_open hKj
    have hCj : Cells s ⟨b, off + j * 5, none⟩ _ := hCj
    obtain ⟨b', off', c', he, hKk, hCk⟩ := hv0.elem k hk
    cases he
    obtain ⟨vk, rfl, -, -, -, -, -⟩ := kT_open hKk
    have hCk : Cells s ⟨b, off + k * 5, none⟩ _ := hCk
    have hxj : xs.getD j default = xs[j] := by rw [List.getD_eq_getElem?_getD, List.getElem?_eq_getElem hj]; rfl
    have hxk : xs.getD k default = xs[k] := by rw [List.getD_eq_getElem?_getD, List.getElem?_eq_getElem hk]; rfl
    have HXJ := Lib.hid hxj
    have HXK := Lib.hid hxk
    generalize hx : xs[j] = x at *
    generalize hy : xs[k] = y at *
    clear hx hy hxj hxk hlt hKj hKk
    have hj0 : ¬ ((j : Int) < 0) := by omega
    have hB : ∀ (s : SH) L (w : World), Holds E s L w → Calls Try.prog 10 #[tv x.proc x.state x.from_ x.to vj, tv y.proc y.state y.from_ y.to vk] w fun e w' => e = .returned (.bool (bef x.state x.to y.state y.from_)) ∧ Holds E s L w' := fun s L w H => before_spec _ _ _ _ _ _ _ _ _ _ H
    have HB := Lib.hid hB
    clear hB
    go_enter Try.func28, Try.ntmps28
    go_wp2_with fail
    refine wp_draw_ob (k := 20) (sz := 27) mixed (by simp) rfl (by kernel_rfl) (by kernel_rfl) H (by simp only [List.take_succ_cons, List.take_zero]; exact rfl) (by simp only [List.drop_succ_cons, List.drop_zero]; exact rfl)
      (fun y => by simp only [ov, Act.put, List.setIfInBounds_toArray, List.set_cons_succ, List.set_cons_zero]; exact rfl) ?_
    iterate 20 (apply Ob.valw; (intro s' w' y Φ hs H hG hΦ; simp [dh, isV, dep, Region.binds] at hG; (try simp only [hG]); first
      | (refine wantN rfl ?_; exact hΦ _ _ (Sub.refl _) H)
      | (refine wantY rfl ?_; first
        | (refine G_s1 _ _ rfl (Try.isAgg42 _) rfl H (hc3.mono hs) 0 rfl rfl ?_; exact hΦ _ _ (Sub.refl _) H)
        | (refine G_s1 _ _ rfl (Try.isAgg3 _) rfl H (hCe.mono hs) 0 rfl rfl ?_; exact hΦ _ _ (Sub.refl _) H)
        | (refine G_s1 _ _ rfl (Try.isAgg22 _) rfl H (hc1.mono hs) 0 rfl rfl ?_; exact hΦ _ _ (Sub.refl _) H)
        | (refine G_sN _ _ rfl (Try.isAgg26 _) rfl H (hCj.mono hs) (Try.sizeOf26 _) ?_; exact hΦ _ _ (Sub.refl _) H)
        | (refine G_sN _ _ rfl (Try.isAgg26 _) rfl H (hCk.mono hs) (Try.sizeOf26 _) ?_; exact hΦ _ _ (Sub.refl _) H)
        | (go_simp; first | (exact hΦ _ _ (Sub.refl _) H) | (refine (HB.out _ _ _ H).mono ?_; rintro e w1 ⟨rfl, H1⟩; exact ⟨_, rfl, hΦ _ _ (Sub.refl _) H1⟩)))))
    clear H
    intro s3 w3 yy hs3 H hG
    simp [gh, isV] at hG
    simp only [hG]
    clear hG
    go_wp2
    go_ret
    exact ⟨by rw [HSP.out]; simp only [bfr, before, HXJ.out, HXK.out]; rfl, H.weak hs3⟩
theorem sparse_ok {E : World} {s : SH} {L : List HP} {w : World} {v : Value} {xs : List Txn} (H : Holds E s L w) (hv : kT.Sl s v xs) (hn : xs.length ≤ 1000) :
    Calls Try.prog 12 #[v] w fun e w' => ∃ v' s', e = .returned v' ∧ Sub s s' ∧ Holds E s' (kPr.Osl v' (sparse xs) :: L) w' :=
  sparse_spec H hv hn fun s' w L v b1 b3 ve hv hb1 hb3 he i k hi hk H => sparse1_spec hn hv hb1 hb3 he i k hi hk H
end Go.Proofs.Ytkppfcfnpajpbaa
