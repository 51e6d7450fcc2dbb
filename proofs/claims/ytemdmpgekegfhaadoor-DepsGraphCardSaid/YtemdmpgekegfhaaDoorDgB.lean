/- deps.Graph and the document's graph of dependencies, walked. -/
import Derived.Test.YtemdmpgekegfhaaDoorLx1
import Derived.Test.YtemdmpgekegfhaaDoorDgA
import Derived.Test.YtemdmpgekegfhaaDoorKinds
namespace Go.Proofs.YtemdmpgekegfhaaDoor
open Go.RowKit
set_option linter.all false
set_option maxRecDepth 10000

def errL (n : Nat) : List Wy → Int
  | [] => 0
  | x :: r => if addE n x.from_ x.to x.label = 0 then errL n r else addE n x.from_ x.to x.label
def FL (n : Nat) (l : List Wy) : Nat → Nat := l.foldl (fun F x => addF n F x.from_ x.to x.label) fun _ => 0
def ML (n : Nat) (l : List Wy) : Nat → Nat → Nat := l.foldl (fun M x => addM n M x.from_ x.to x.label) fun _ _ => 0
theorem relL (n : Nat) : ∀ (l : List Wy) (F : Nat → Nat) (M : Nat → Nat → Nat), Rel n F M → Rel n (l.foldl (fun F x => addF n F x.from_ x.to x.label) F) (l.foldl (fun M x => addM n M x.from_ x.to x.label) M)
  | [], _, _, h => h
  | x :: r, F, M, h => relL n r _ _ (h.add x.from_ x.to x.label)
theorem errL_step {n : Nat} {l : List Wy} {t : Nat} (ht : t < l.length) (h0 : addE n l[t].from_ l[t].to l[t].label = 0) : errL n (l.drop t) = errL n (l.drop (t + 1)) := by
  rw [List.drop_eq_getElem_cons ht]
  simp [errL, h0]
theorem errL_stop {n : Nat} {l : List Wy} {t : Nat} (ht : t < l.length) (h0 : addE n l[t].from_ l[t].to l[t].label ≠ 0) : errL n (l.drop t) = addE n l[t].from_ l[t].to l[t].label := by
  rw [List.drop_eq_getElem_cons ht]
  simp [errL, h0]
theorem FL_step {n : Nat} {l : List Wy} {t : Nat} (ht : t < l.length) : addF n (FL n (l.take t)) l[t].from_ l[t].to l[t].label = FL n (l.take (t + 1)) := by
  unfold FL; rw [List.take_succ_eq_append_getElem ht, List.foldl_append]; rfl
theorem ML_step {n : Nat} {l : List Wy} {t : Nat} (ht : t < l.length) : addM n (ML n (l.take t)) l[t].from_ l[t].to l[t].label = ML n (l.take (t + 1)) := by
  unfold ML; rw [List.take_succ_eq_append_getElem ht, List.foldl_append]; rfl
theorem Holds.dropApp {E : World} {s : SH} {L : List HP} {w : World} : ∀ {A : List HP}, Holds E s (A ++ L) w → Holds E s L w
  | [], H => H
  | _ :: A, H => Holds.dropApp (A := A) (Holds.drop H)
theorem ML_lab (n : Nat) (l : List Wy) : ∀ u v, ML n l u v < 16 := (relL n l _ _ (Rel.zero n)).lab
theorem gnew_e {w : World} {z : Int} (hz : ¬ (0 ≤ z ∧ z ≤ 300)) : Calls Tryd.prog 59 #[.int .i64 z] w fun e w' => e = .returned (.tuple #[.pointer none, .int .i64 1]) ∧ w' = w := by
  have hb : (decide (z < 0) || decide (300 < z)) = true := by simp; omega
  go_enter Tryd.func59, Tryd.ntmps59
  go_wp2
  all_goals exact ret2 rfl (rv_tmp rfl) (rv_tmp rfl) rfl ⟨rfl, rfl⟩
set_option maxHeartbeats 2000000 in
theorem dgraph_c {E : World} {s : SH} {L : List HP} {w : World} {n : Nat} {v : Value} {l : List Wy} (hn : n ≤ 300) (hl : kWy.Sl s v l) (H : Holds E s L w) :
    Calls Tryd.prog 25 #[.int .i64 n, v] w fun e w' => ∃ s', Sub s s' ∧ Holds E s' L w' ∧ ((errL n l = 0 ∧ ∃ a, e = .returned (.tuple #[.pointer (some ⟨a, 0, none⟩), .int .i64 0]) ∧ Gr s' a n (FL n l)) ∨ (errL n l ≠ 0 ∧ e = .returned (.tuple #[.pointer none, .int .i64 (errL n l)]))) := by
  obtain ⟨A, c, rfl, -, hby, -⟩ := id hl
  have hll : l.length ≤ 140737488355328 := by have h : l.length * 64 ≤ 140737488355328 := hby; omega
  clear hby
  go_enter Tryd.func25, Tryd.ntmps25
  go_wp2_with (go_at_call 59; refine (gnew_c hn H).mono ?_; clear H; rintro e w' ⟨a, s1, W, rfl, hs1, hG, H⟩)
  have H : Holds E s1 (grP n (FL n (l.take 0)) W ++ L) w' := H
  have hl2 := hl.mono hs1
  clear hl
  go_loopw [21] (fun i wr => ∃ t : Nat, t ≤ l.length ∧ i = .int .i64 t ∧ RowKit.Hid (errL n (l.drop t) = errL n l) ∧ Holds E s1 (grP n (FL n (l.take t)) W ++ L) wr) (fun i _ => l.length - (intOf i).toNat)
  case atStart => exact ⟨0, Nat.zero_le _, rfl, Lib.hid rfl, H⟩
  case round =>
    clear H
    obtain ⟨t, ht, rfl, hE, H2⟩ := hrel
    by_cases hlt : t < l.length
    · obtain ⟨blk, off, cs, rfl, hK, hC⟩ := hl2.elem t hlt
      obtain ⟨rfl, -⟩ := kWy_op hK
      have h1 := kWy.one hK
      have hC : Cells s1 ⟨blk, off + t * 8, none⟩ _ := hC
      have hstep := Lib.hid (FL_step (n := n) hlt)
      have hes := Lib.hid (fun h => errL_step (n := n) hlt h)
      have hee := Lib.hid (fun h => errL_stop (n := n) hlt h)
      clear hK
      generalize l[t] = u at hC h1 hstep hes hee
      generalize hae : addE n u.from_ u.to u.label = ae at hes hee
      by_cases hz : ae = 0
      · subst hz
        go_wp2_with (first
          | ((with_reducible refine OpG.list rfl ?_); first
            | (refine G_sN _ _ rfl (Tryd.isAgg50 _) rfl H2 hC (Tryd.sizeOf50 _) ?_)
            | (refine G_alloc 50 rfl (Tryd.zeroValue50 _) H2 ?_; clear H2; intro g w4 H2)
            | (refine G_setN _ _ _ rfl (Tryd.sizeOf50 _) rfl rfl h1 H2 rfl ?_; clear H2; intro w4 H2)
            | (refine G_p1i 0 _ _ rfl (Tryd.isAgg3 _) rfl H2 rfl rfl ?_))
          | (go_at_call 61; refine (gadd_c hn _ _ _ hG (Holds.swapApp (A := [_]) (B := grP n (FL n (l.take t)) W) H2)).mono ?_; clear H2; rintro e w' ⟨rfl, H3⟩; rw [hstep.out] at H3; (try rw [hae])))
        refine ⟨⟨t + 1, by omega, rfl, Lib.hid ((show errL n (l.drop t) = errL n (l.drop (t + 1)) by first | exact hes.out rfl | exact hes.out trivial).symm.trans hE.out), (Holds.swapApp (A := _) (B := [_]) H3).drop⟩, ?_⟩
        simp only [intOf]; omega
      · have hzb : (ae != 0) = true := by simp; exact hz
        go_wp2_with (first
          | ((with_reducible refine OpG.list rfl ?_); first
            | (refine G_sN _ _ rfl (Tryd.isAgg50 _) rfl H2 hC (Tryd.sizeOf50 _) ?_)
            | (refine G_alloc 50 rfl (Tryd.zeroValue50 _) H2 ?_; clear H2; intro g w4 H2)
            | (refine G_setN _ _ _ rfl (Tryd.sizeOf50 _) rfl rfl h1 H2 rfl ?_; clear H2; intro w4 H2)
            | (refine G_p1i 0 _ _ rfl (Tryd.isAgg3 _) rfl H2 rfl rfl ?_))
          | (go_at_call 61; refine (gadd_c hn _ _ _ hG (Holds.swapApp (A := [_]) (B := grP n (FL n (l.take t)) W) H2)).mono ?_; clear H2; rintro e w' ⟨rfl, H3⟩; rw [hstep.out] at H3; (try rw [hae])))
        have hfin : errL n l = ae := by rw [← hE.out]; exact hee.out hz
        refine ret2 rfl (rv_tmp rfl) (rv_tmp rfl) rfl ⟨s1, hs1, (Holds.dropApp H3).drop, .inr ⟨by rw [hfin]; exact hz, by rw [hfin]; rfl⟩⟩
    · have htl : t = l.length := by omega
      have hfin : errL n l = 0 := by rw [← hE.out, htl, List.drop_length]; rfl
      rw [htl, List.take_length] at H2
      obtain ⟨s2, hs2, hgr, H3⟩ := Gr.freeze hG H2
      subst htl
      go_wp2
      exact ret2 rfl (rv_tmp rfl) (rv_tmp rfl) rfl ⟨s2, hs1.trans hs2, H3, .inl ⟨hfin, a, rfl, hgr⟩⟩
theorem xnew_e {w : World} {z : Int} (hz : ¬ (0 ≤ z ∧ z ≤ 300)) : Calls Tryd.prog 60 #[.int .i64 z] w fun e w' => e = .returned (.tuple #[.pointer none, .int .i64 1]) ∧ w' = w := by
  have hb : (decide (z < 0) || decide (300 < z)) = true := by simp; omega
  go_enter Tryd.func60, Tryd.ntmps60
  go_wp2
  all_goals exact ret2 rfl (rv_tmp rfl) (rv_tmp rfl) rfl ⟨rfl, rfl⟩
set_option maxHeartbeats 2000000 in
theorem xgraph_c {E : World} {s : SH} {L : List HP} {w : World} {n : Nat} {v : Value} {l : List Wy} (hn : n ≤ 300) (hl : kWy.Sl s v l) (H : Holds E s L w) :
    Calls Tryd.prog 26 #[.int .i64 n, v] w fun e w' => ∃ s', Sub s s' ∧ Holds E s' L w' ∧ ((errL n l = 0 ∧ ∃ a, e = .returned (.tuple #[.pointer (some ⟨a, 0, none⟩), .int .i64 0]) ∧ Xr s' a n (ML n l)) ∨ (errL n l ≠ 0 ∧ e = .returned (.tuple #[.pointer none, .int .i64 (errL n l)]))) := by
  obtain ⟨A, c, rfl, -, hby, -⟩ := id hl
  have hll : l.length ≤ 140737488355328 := by have h : l.length * 64 ≤ 140737488355328 := hby; omega
  clear hby
  go_enter Tryd.func26, Tryd.ntmps26
  go_wp2_with (go_at_call 60; refine (xnew_c hn H).mono ?_; clear H; rintro e w' ⟨a, s1, W, rfl, hs1, hG, H⟩)
  have H : Holds E s1 (xrP n (ML n (l.take 0)) W ++ L) w' := H
  have hl2 := hl.mono hs1
  clear hl
  go_loopw [21] (fun i wr => ∃ t : Nat, t ≤ l.length ∧ i = .int .i64 t ∧ RowKit.Hid (errL n (l.drop t) = errL n l) ∧ Holds E s1 (xrP n (ML n (l.take t)) W ++ L) wr) (fun i _ => l.length - (intOf i).toNat)
  case atStart => exact ⟨0, Nat.zero_le _, rfl, Lib.hid rfl, H⟩
  case round =>
    clear H
    obtain ⟨t, ht, rfl, hE, H2⟩ := hrel
    by_cases hlt : t < l.length
    · obtain ⟨blk, off, cs, rfl, hK, hC⟩ := hl2.elem t hlt
      obtain ⟨rfl, -⟩ := kWy_op hK
      have h1 := kWy.one hK
      have hC : Cells s1 ⟨blk, off + t * 8, none⟩ _ := hC
      have hstep := Lib.hid (ML_step (n := n) hlt)
      have hes := Lib.hid (fun h => errL_step (n := n) hlt h)
      have hee := Lib.hid (fun h => errL_stop (n := n) hlt h)
      clear hK
      generalize l[t] = u at hC h1 hstep hes hee
      generalize hae : addE n u.from_ u.to u.label = ae at hes hee
      by_cases hz : ae = 0
      · subst hz
        go_wp2_with (first
          | ((with_reducible refine OpG.list rfl ?_); first
            | (refine G_sN _ _ rfl (Tryd.isAgg50 _) rfl H2 hC (Tryd.sizeOf50 _) ?_)
            | (refine G_alloc 50 rfl (Tryd.zeroValue50 _) H2 ?_; clear H2; intro g w4 H2)
            | (refine G_setN _ _ _ rfl (Tryd.sizeOf50 _) rfl rfl h1 H2 rfl ?_; clear H2; intro w4 H2)
            | (refine G_p1i 0 _ _ rfl (Tryd.isAgg3 _) rfl H2 rfl rfl ?_))
          | (go_at_call 62; refine (xadd_c hn _ _ _ hG (ML_lab n _) (Holds.swapApp (A := [_]) (B := xrP n (ML n (l.take t)) W) H2)).mono ?_; clear H2; rintro e w' ⟨rfl, H3⟩; rw [hstep.out] at H3; (try rw [hae])))
        refine ⟨⟨t + 1, by omega, rfl, Lib.hid ((show errL n (l.drop t) = errL n (l.drop (t + 1)) by first | exact hes.out rfl | exact hes.out trivial).symm.trans hE.out), (Holds.swapApp (A := _) (B := [_]) H3).drop⟩, ?_⟩
        simp only [intOf]; omega
      · have hzb : (ae != 0) = true := by simp; exact hz
        go_wp2_with (first
          | ((with_reducible refine OpG.list rfl ?_); first
            | (refine G_sN _ _ rfl (Tryd.isAgg50 _) rfl H2 hC (Tryd.sizeOf50 _) ?_)
            | (refine G_alloc 50 rfl (Tryd.zeroValue50 _) H2 ?_; clear H2; intro g w4 H2)
            | (refine G_setN _ _ _ rfl (Tryd.sizeOf50 _) rfl rfl h1 H2 rfl ?_; clear H2; intro w4 H2)
            | (refine G_p1i 0 _ _ rfl (Tryd.isAgg3 _) rfl H2 rfl rfl ?_))
          | (go_at_call 62; refine (xadd_c hn _ _ _ hG (ML_lab n _) (Holds.swapApp (A := [_]) (B := xrP n (ML n (l.take t)) W) H2)).mono ?_; clear H2; rintro e w' ⟨rfl, H3⟩; rw [hstep.out] at H3; (try rw [hae])))
        have hfin : errL n l = ae := by rw [← hE.out]; exact hee.out hz
        refine ret2 rfl (rv_tmp rfl) (rv_tmp rfl) rfl ⟨s1, hs1, (Holds.dropApp H3).drop, .inr ⟨by rw [hfin]; exact hz, by rw [hfin]; rfl⟩⟩
    · have htl : t = l.length := by omega
      have hfin : errL n l = 0 := by rw [← hE.out, htl, List.drop_length]; rfl
      rw [htl, List.take_length] at H2
      obtain ⟨s2, hs2, H3, hx⟩ := fam_fr (b := W) (o := fun i => .cells (rowI n (ML n l i)) 3 (0, 0)) H2
      have hgr : Xr s2 a n (ML n l) := ⟨W, hG.mono hs2, hx⟩
      subst htl
      go_wp2
      exact ret2 rfl (rv_tmp rfl) (rv_tmp rfl) rfl ⟨s2, hs1.trans hs2, H3, .inl ⟨hfin, a, rfl, hgr⟩⟩
end Go.Proofs.YtemdmpgekegfhaaDoor
