/- The inner layer: the first reads, walked. -/
import Derived.Test.YticpadjheelipaaOf
import Derived.Test.YticpadjheelipaaSimple
import Derived.Test.YticpadjheelipaaRFin
namespace Go.Proofs.Yticpadjheelipaa
open Go.RowKit
set_option linter.all false
set_option maxRecDepth 10000

def extS (g : Thing → Bool) (o : Op') : Thing → Bool := fun x => if x = thingOf o then (g (thingOf o) || (isOf o && ((o.kind == 1 || o.kind == 3) || o.has))) else g x
def extF : (Thing → Bool) → Nat → List Op' → List Int
  | _, _, [] => []
  | g, i, o :: r => if (isOf o && readsO o && !g (thingOf o)) = true then (i : Int) :: extF (extS g o) (i + 1) r else extF (extS g o) (i + 1) r
/-- The map's rows l hold the truths g. -/
structure BoolsAt (g : Thing → Bool) (l : List (Thing × Value)) : Prop where
  ok : ∀ p ∈ l, okT p.1
  uniq : Uniq l
  get : ∀ t, (mget l t).getD (.bool false) = .bool (g t)
theorem BoolsAt.nil : BoolsAt (fun _ => false) [] := ⟨fun _ h => (List.not_mem_nil h).elim, List.Pairwise.nil, fun _ => rfl⟩
theorem BoolsAt.put {g : Thing → Bool} {l : List (Thing × Value)} (h : BoolsAt g l) {t : Thing} (ht : okT t) (b : Bool) : BoolsAt (fun x => if x = t then b else g x) (mput l t (.bool b)) := by
  refine ⟨fun p hp => ?_, mput_uniq h.uniq _ _, fun x => ?_⟩
  · rcases mput_mem hp with e | e
    · subst e; exact ht
    · exact h.ok p e
  · rw [mget_put]
    by_cases e : x = t
    · simp only [if_pos e]; rfl
    · simp only [if_neg e]; exact h.get x
set_option maxHeartbeats 4000000 in
theorem external_spec {E : World} {s : SH} {L : List HP} {w : World} {v : Value} {xs : List Op'} (hv : kOp.Sl s v xs) (H : Holds E s L w) :
    Calls Try.prog 18 #[v] w fun e w' => ∃ v' s', e = .returned v' ∧ Sub s s' ∧ kI.Sl s' v' (extF (fun _ => false) 0 xs) ∧ Holds E s' L w' := by
  have hv0 := hv
  obtain ⟨A, cap, rfl, h1, h2, -⟩ := hv
  have h2' : xs.length * 64 ≤ 140737488355328 := h2
  clear h2
  go_enter Try.func18, Try.ntmps18
  refine wp_seq ?_
  refine wp_region_lit ?_
  apply seq_op rfl
  · intro Φ hΦ; go_simp; exact hΦ
  (try simp only [Act.put, List.setIfInBounds_toArray, List.set_cons_succ, List.set_cons_zero])
  refine list_end ?_
  refine then_norm ?_
  refine wp_seq ?_
  refine wp_region_lit ?_
  refine OpG.list rfl ?_; refine G_makeMap (κ := Thing) (enc := encT) 83 rfl H ?_; clear H; intro r9 w1 H
  (try simp only [Act.put, List.setIfInBounds_toArray, List.set_cons_succ, List.set_cons_zero])
  apply seq_op rfl
  · intro Φ hΦ; go_simp; exact hΦ
  (try simp only [Act.put, List.setIfInBounds_toArray, List.set_cons_succ, List.set_cons_zero])
  refine list_end ?_
  refine then_norm ?_
  refine wp_seq ?_
  refine wp_region_lit ?_
  apply seq_op rfl
  · intro Φ hΦ; go_simp; exact hΦ
  (try simp only [Act.put, List.setIfInBounds_toArray, List.set_cons_succ, List.set_cons_zero])
  refine list_end ?_
  refine then_norm ?_
  refine wp_seq ?_
  refine wp_seq ?_
  refine wp_region_lit ?_
  apply seq_op rfl
  · intro Φ hΦ; go_simp; exact hΦ
  (try simp only [Act.put, List.setIfInBounds_toArray, List.set_cons_succ, List.set_cons_zero])
  apply seq_op rfl
  · intro Φ hΦ; go_simp; exact hΦ
  (try simp only [Act.put, List.setIfInBounds_toArray, List.set_cons_succ, List.set_cons_zero])
  apply seq_op rfl
  · intro Φ hΦ; go_simp; exact hΦ
  (try simp only [Act.put, List.setIfInBounds_toArray, List.set_cons_succ, List.set_cons_zero])
  refine list_end ?_
  refine then_norm ?_
  refine wp_block ?_
  replace H := Kin.Osl.nil (d := kI.sh s) H
  replace H := H.swap
  refine wp_loopF [none, none, none, none, some 4, some 5, some 6, some 7, some 8, none, none, none, some 12, some 13, some 14, some 15, some 16, some 17, some 18, some 19, some 20, some 21, some 22, some 23, some 24, some 25, some 26, some 27, some 28, some 29, some 30, some 31, some 32, some 33, some 34, some 35, some 36, some 37, some 38, some 39, some 40, some 41, some 42, some 43, some 44, some 45, some 46, some 47, some 48, some 49, some 50, some 51, some 52, some 53, none] rfl (by simp) (fun f w => ∃ k : Nat, ∃ g : Thing → Bool, ∃ l : List (Thing × Value), ∃ ys : List Int, k ≤ xs.length ∧ f 12 = .int .i64 k ∧ ys ++ extF g k (xs.drop k) = extF (fun _ => false) 0 xs ∧ ys.length ≤ k ∧ BoolsAt g l ∧ Holds E s (mpP encT r9 l :: (kI.sh s).Osl (f 4) ys :: L) w) (fun f w => xs.length - (intOf (f 12)).toNat) ?_ ?_
  · skip
    exact ⟨0, fun _ => false, [], [], Nat.zero_le _, rfl, by rw [List.drop_zero]; rfl, Nat.le_refl _, BoolsAt.nil, H⟩
  · intro f w hI
    clear H
    obtain ⟨k, g, l, ys, hk, h12, hR, hyl, hBA, H⟩ := hI
    have HR := Lib.hid hR
    clear hR
    simp only [ovm, mixM]
    simp only [h12]
    clear h12
    obtain ⟨v4, hv4⟩ : ∃ v4, f 4 = v4 := ⟨_, rfl⟩
    simp only [hv4] at H
    simp only [hv4]
    clear hv4
    refine wp_seq ?_
    refine wp_region_lit ?_
    apply seq_op rfl
    · intro Φ hΦ; go_simp; exact hΦ
    (try simp only [Act.put, List.setIfInBounds_toArray, List.set_cons_succ, List.set_cons_zero])
    refine list_end ?_
    refine then_norm ?_
    refine wp_seq ?_
    refine wp_cond_split rfl (fun hc => ?_) (fun hc => ?_)
    · skip
      refine wp_skip ?_
      refine then_norm ?_
      refine wp_seq ?_
      refine wp_block ?_
      refine wp_seq ?_
      have hlt : k < xs.length := by simpa using hc
      obtain ⟨b, off, o, Al, cl, rfl, hdr0, hmem, hC, hol, hkind, hkey, hval⟩ := elemOp hv0 k hlt
      have hdr := Lib.hid hdr0
      clear hdr0
      have hok : okT (thingOf o) := Nat.le_trans hkey (by unfold maxLen; omega)
      refine wp_region_lit ?_
      apply seq_op rfl
      · intro Φ hΦ; go_simp; exact hΦ
      (try simp only [Act.put, List.setIfInBounds_toArray, List.set_cons_succ, List.set_cons_zero])
      apply seq_op rfl
      · intro Φ hΦ; go_simp; exact hΦ
      (try simp only [Act.put, List.setIfInBounds_toArray, List.set_cons_succ, List.set_cons_zero])
      apply seq_op rfl
      · intro Φ hΦ; first | (refine L_1 0 _ _ rfl (Try.isAgg25 _) rfl H rfl rfl ?_; exact hΦ) | (refine L_1 1 _ _ rfl (Try.isAgg25 _) rfl H rfl rfl ?_; exact hΦ) | (refine L_1 2 _ _ rfl (Try.isAgg25 _) rfl H rfl rfl ?_; exact hΦ) | (refine L_1 3 _ _ rfl (Try.isAgg25 _) rfl H rfl rfl ?_; exact hΦ) | (refine G_pNi 0 _ _ rfl (Try.isAgg25 _) rfl H rfl (Try.sizeOf25 _) ?_; exact hΦ) | (refine G_pNi 1 _ _ rfl (Try.isAgg25 _) rfl H rfl (Try.sizeOf25 _) ?_; exact hΦ) | (refine G_pNi 2 _ _ rfl (Try.isAgg25 _) rfl H rfl (Try.sizeOf25 _) ?_; exact hΦ) | (refine G_pNi 3 _ _ rfl (Try.isAgg25 _) rfl H rfl (Try.sizeOf25 _) ?_; exact hΦ) | (refine G_s1 _ _ rfl (Try.isAgg25 _) rfl H hC 0 rfl rfl ?_; exact hΦ) | (refine G_s1 _ _ rfl (Try.isAgg25 _) rfl H hC _ rfl rfl ?_; exact hΦ) | (refine G_sN _ _ rfl (Try.isAgg25 _) rfl H hC (Try.sizeOf25 _) ?_; exact hΦ)
      (try simp only [Act.put, List.setIfInBounds_toArray, List.set_cons_succ, List.set_cons_zero])
      refine OpG.list rfl ?_; refine G_alloc 25 rfl (Try.zeroValue25 _) H ?_; clear H; intro b6 w1 H; (try simp only [Value.cells] at H)
      (try simp only [Act.put, List.setIfInBounds_toArray, List.set_cons_succ, List.set_cons_zero])
      apply seq_op rfl
      · intro Φ hΦ; go_simp; exact hΦ
      (try simp only [Act.put, List.setIfInBounds_toArray, List.set_cons_succ, List.set_cons_zero])
      refine OpG.list rfl ?_; first | (refine S_1 0 _ _ _ rfl (Try.sizeOf25 _) rfl rfl H rfl ?_ ?_ ?_; (focus (first | (simp [Value.oneCell']; done) | assumption)); (focus (simp; done))) | (refine G_setNi 0 _ _ _ rfl (Try.sizeOf25 _) rfl rfl ?_ H rfl rfl ?_; (focus (first | (simp [Value.oneCell']; done) | assumption))) | (refine S_1 1 _ _ _ rfl (Try.sizeOf25 _) rfl rfl H rfl ?_ ?_ ?_; (focus (first | (simp [Value.oneCell']; done) | assumption)); (focus (simp; done))) | (refine G_setNi 1 _ _ _ rfl (Try.sizeOf25 _) rfl rfl ?_ H rfl rfl ?_; (focus (first | (simp [Value.oneCell']; done) | assumption))) | (refine S_1 2 _ _ _ rfl (Try.sizeOf25 _) rfl rfl H rfl ?_ ?_ ?_; (focus (first | (simp [Value.oneCell']; done) | assumption)); (focus (simp; done))) | (refine G_setNi 2 _ _ _ rfl (Try.sizeOf25 _) rfl rfl ?_ H rfl rfl ?_; (focus (first | (simp [Value.oneCell']; done) | assumption))) | (refine S_1 3 _ _ _ rfl (Try.sizeOf25 _) rfl rfl H rfl ?_ ?_ ?_; (focus (first | (simp [Value.oneCell']; done) | assumption)); (focus (simp; done))) | (refine G_setNi 3 _ _ _ rfl (Try.sizeOf25 _) rfl rfl ?_ H rfl rfl ?_; (focus (first | (simp [Value.oneCell']; done) | assumption)))
      clear H; intro w1 H; simp only [List.set_cons_succ, List.set_cons_zero] at H
      refine list_end ?_
      refine then_norm ?_
      refine wp_seq ?_
      refine wp_region_lit ?_
      apply seq_op rfl
      · intro Φ hΦ; first | (refine L_1 0 _ _ rfl (Try.isAgg25 _) rfl H rfl rfl ?_; exact hΦ) | (refine L_1 1 _ _ rfl (Try.isAgg25 _) rfl H rfl rfl ?_; exact hΦ) | (refine L_1 2 _ _ rfl (Try.isAgg25 _) rfl H rfl rfl ?_; exact hΦ) | (refine L_1 3 _ _ rfl (Try.isAgg25 _) rfl H rfl rfl ?_; exact hΦ) | (refine G_pNi 0 _ _ rfl (Try.isAgg25 _) rfl H rfl (Try.sizeOf25 _) ?_; exact hΦ) | (refine G_pNi 1 _ _ rfl (Try.isAgg25 _) rfl H rfl (Try.sizeOf25 _) ?_; exact hΦ) | (refine G_pNi 2 _ _ rfl (Try.isAgg25 _) rfl H rfl (Try.sizeOf25 _) ?_; exact hΦ) | (refine G_pNi 3 _ _ rfl (Try.isAgg25 _) rfl H rfl (Try.sizeOf25 _) ?_; exact hΦ) | (refine G_s1 _ _ rfl (Try.isAgg25 _) rfl H hC 0 rfl rfl ?_; exact hΦ) | (refine G_s1 _ _ rfl (Try.isAgg25 _) rfl H hC _ rfl rfl ?_; exact hΦ) | (refine G_sN _ _ rfl (Try.isAgg25 _) rfl H hC (Try.sizeOf25 _) ?_; exact hΦ)
      (try simp only [Act.put, List.setIfInBounds_toArray, List.set_cons_succ, List.set_cons_zero])
      refine seq_call rfl (fun Φ hΦ => by go_simp; (try exact hΦ)) (of_spec o _ H) ?_
      clear H; rintro e w1 ⟨rfl, H⟩; refine ⟨_, rfl, ?_⟩
      (try simp only [Act.put, List.setIfInBounds_toArray, List.set_cons_succ, List.set_cons_zero])
      apply seq_op rfl
      · intro Φ hΦ; go_simp; exact hΦ
      (try simp only [Act.put, List.setIfInBounds_toArray, List.set_cons_succ, List.set_cons_zero])
      apply seq_op rfl
      · intro Φ hΦ; go_simp; exact hΦ
      (try simp only [Act.put, List.setIfInBounds_toArray, List.set_cons_succ, List.set_cons_zero])
      apply seq_op rfl
      · intro Φ hΦ; go_simp; exact hΦ
      (try simp only [Act.put, List.setIfInBounds_toArray, List.set_cons_succ, List.set_cons_zero])
      refine OpG.list rfl ?_; refine G_alloc 73 rfl (Try.zeroValue73 _) H ?_; clear H; intro b7 w1 H; (try simp only [Value.cells] at H)
      (try simp only [Act.put, List.setIfInBounds_toArray, List.set_cons_succ, List.set_cons_zero])
      refine OpG.list rfl ?_; first | (refine S_1 0 _ _ _ rfl (Try.sizeOf73 _) rfl rfl H rfl ?_ ?_ ?_; (focus (first | (simp [Value.oneCell']; done) | assumption)); (focus (simp; done))) | (refine G_setNi 0 _ _ _ rfl (Try.sizeOf73 _) rfl rfl ?_ H rfl rfl ?_; (focus (first | (simp [Value.oneCell']; done) | assumption))) | (refine S_1 1 _ _ _ rfl (Try.sizeOf73 _) rfl rfl H rfl ?_ ?_ ?_; (focus (first | (simp [Value.oneCell']; done) | assumption)); (focus (simp; done))) | (refine G_setNi 1 _ _ _ rfl (Try.sizeOf73 _) rfl rfl ?_ H rfl rfl ?_; (focus (first | (simp [Value.oneCell']; done) | assumption))) | (refine S_1 2 _ _ _ rfl (Try.sizeOf73 _) rfl rfl H rfl ?_ ?_ ?_; (focus (first | (simp [Value.oneCell']; done) | assumption)); (focus (simp; done))) | (refine G_setNi 2 _ _ _ rfl (Try.sizeOf73 _) rfl rfl ?_ H rfl rfl ?_; (focus (first | (simp [Value.oneCell']; done) | assumption))) | (refine S_1 3 _ _ _ rfl (Try.sizeOf73 _) rfl rfl H rfl ?_ ?_ ?_; (focus (first | (simp [Value.oneCell']; done) | assumption)); (focus (simp; done))) | (refine G_setNi 3 _ _ _ rfl (Try.sizeOf73 _) rfl rfl ?_ H rfl rfl ?_; (focus (first | (simp [Value.oneCell']; done) | assumption)))
      clear H; intro w1 H; simp only [List.set_cons_succ, List.set_cons_zero] at H
      apply seq_op rfl
      · intro Φ hΦ; go_simp; exact hΦ
      (try simp only [Act.put, List.setIfInBounds_toArray, List.set_cons_succ, List.set_cons_zero])
      refine list_end ?_
      refine then_norm ?_
      refine wp_seq ?_
      refine wp_seq ?_
      have hlk := Lib.hid (hBA.get (thingOf o))
      refine wp_plain_obO (k := 11) (sz := 55) (List.replicate 11 11) (fun _ => []) rfl rfl (by kernel_rfl) (by kernel_rfl) H (by simp only [List.take_succ_cons, List.take_zero]; exact rfl)
        (fun y => by simp only [ov, Act.put, List.setIfInBounds_toArray, List.set_cons_succ, List.set_cons_zero, Nat.zero_add, Nat.reduceAdd]; exact rfl) ?_
      apply ObO.valw
      · intro x; rfl
      · intro s' w' y Φ R hs H hG hΦ; skip; refine wantG rfl ?_; (go_simp; exact hΦ _ _ (Sub.refl _) H)
      apply ObO.valw
      · intro x; rfl
      · intro s' w' y Φ R hs H hG hΦ; simp only [List.nil_append, List.cons_append] at hG; have e0 : y 0 = _ := dh_get hG 0 rfl (by kernel_rfl); simp only [e0]; refine wantG rfl ?_; (go_simp; exact hΦ _ _ (Sub.refl _) H)
      apply ObO.valg
      · intro x; rfl
      · intro s' y hG; simp only [List.nil_append, List.cons_append] at hG; have eg : y 1 = _ := dh_get hG 1 rfl (by kernel_rfl); simp only [eg]; first | exact wanted_t rfl rfl rfl | exact wanted_vt rfl rfl rfl
      · intro hc s' w' y Φ R hs H hG hΦ; have HC := Lib.hid hc; clear hc; skip; first | (refine L_1 0 _ _ rfl (Try.isAgg25 _) rfl H rfl rfl ?_; exact hΦ _ _ (Sub.refl _) H) | (refine L_1 1 _ _ rfl (Try.isAgg25 _) rfl H rfl rfl ?_; exact hΦ _ _ (Sub.refl _) H) | (refine L_1 2 _ _ rfl (Try.isAgg25 _) rfl H rfl rfl ?_; exact hΦ _ _ (Sub.refl _) H) | (refine L_1 3 _ _ rfl (Try.isAgg25 _) rfl H rfl rfl ?_; exact hΦ _ _ (Sub.refl _) H) | (refine G_pNi 0 _ _ rfl (Try.isAgg25 _) rfl H rfl (Try.sizeOf25 _) ?_; exact hΦ _ _ (Sub.refl _) H) | (refine G_pNi 1 _ _ rfl (Try.isAgg25 _) rfl H rfl (Try.sizeOf25 _) ?_; exact hΦ _ _ (Sub.refl _) H) | (refine G_pNi 2 _ _ rfl (Try.isAgg25 _) rfl H rfl (Try.sizeOf25 _) ?_; exact hΦ _ _ (Sub.refl _) H) | (refine G_pNi 3 _ _ rfl (Try.isAgg25 _) rfl H rfl (Try.sizeOf25 _) ?_; exact hΦ _ _ (Sub.refl _) H) | (refine G_s1 _ _ rfl (Try.isAgg25 _) rfl H (hC.mono hs) 0 rfl rfl ?_; exact hΦ _ _ (Sub.refl _) H) | (refine G_s1 _ _ rfl (Try.isAgg25 _) rfl H (hC.mono hs) _ rfl rfl ?_; exact hΦ _ _ (Sub.refl _) H) | (refine G_sN _ _ rfl (Try.isAgg25 _) rfl H (hC.mono hs) (Try.sizeOf25 _) ?_; exact hΦ _ _ (Sub.refl _) H)
      apply ObO.valg
      · intro x; rfl
      · intro s' y hG; simp only [List.nil_append, List.cons_append] at hG; have eg : y 1 = _ := dh_get hG 1 rfl (by kernel_rfl); simp only [eg]; first | exact wanted_t rfl rfl rfl | exact wanted_vt rfl rfl rfl
      · intro hc s' w' y Φ R hs H hG hΦ; simp only [List.nil_append, List.cons_append] at hG; have e2 : y 2 = _ := dh_get hG 2 rfl (by kernel_rfl); (first | rw [vg_of hc] at e2 | rw [vg_of (and_l hc)] at e2 | rw [vg_of (and_l (and_l hc))] at e2 | rw [vg_of (and_l (and_l (and_l hc)))] at e2 | rw [vg_and hc] at e2 | skip); have HC := Lib.hid hc; clear hc; simp only [e2]; (go_simp; refine (reads_any H).mono ?_; rintro e w2 ⟨rfl, H⟩; exact ⟨_, rfl, hΦ _ _ (Sub.refl _) H⟩)
      apply ObO.valw
      · intro x; rfl
      · intro s' w' y Φ R hs H hG hΦ; simp only [List.nil_append, List.cons_append] at hG; have e1 : y 1 = _ := dh_get hG 1 rfl (by kernel_rfl); have e3 : y 3 = _ := dh_get hG 3 rfl (by kernel_rfl); simp only [e1, e3]; refine wantG rfl ?_; (refine G_and _ _ _ rfl rfl rfl rfl ?_; exact hΦ _ _ (Sub.refl _) H)
      apply ObO.valw
      · intro x; rfl
      · intro s' w' y Φ R hs H hG hΦ; simp only [List.nil_append, List.cons_append] at hG; have e4 : y 4 = _ := dh_get hG 4 rfl (by kernel_rfl); simp only [e4]; refine wantG rfl ?_; (go_simp; exact hΦ _ _ (Sub.refl _) H)
      apply ObO.valg
      · intro x; rfl
      · intro s' y hG; simp only [List.nil_append, List.cons_append] at hG; have eg : y 5 = _ := dh_get hG 5 rfl (by kernel_rfl); simp only [eg]; first | exact wanted_t rfl rfl rfl | exact wanted_vt rfl rfl rfl
      · intro hc s' w' y Φ R hs H hG hΦ; have HC := Lib.hid hc; clear hc; skip; (go_simp; exact hΦ _ _ (Sub.refl _) H)
      apply ObO.valg
      · intro x; rfl
      · intro s' y hG; simp only [List.nil_append, List.cons_append] at hG; have eg : y 5 = _ := dh_get hG 5 rfl (by kernel_rfl); simp only [eg]; first | exact wanted_t rfl rfl rfl | exact wanted_vt rfl rfl rfl
      · intro hc s' w' y Φ R hs H hG hΦ; have HC := Lib.hid hc; clear hc; skip; first | (refine L_1 0 _ _ rfl (Try.isAgg73 _) rfl H rfl rfl ?_; exact hΦ _ _ (Sub.refl _) H) | (refine L_1 1 _ _ rfl (Try.isAgg73 _) rfl H rfl rfl ?_; exact hΦ _ _ (Sub.refl _) H) | (refine L_1 2 _ _ rfl (Try.isAgg73 _) rfl H rfl rfl ?_; exact hΦ _ _ (Sub.refl _) H) | (refine L_1 3 _ _ rfl (Try.isAgg73 _) rfl H rfl rfl ?_; exact hΦ _ _ (Sub.refl _) H) | (refine G_pNi 0 _ _ rfl (Try.isAgg73 _) rfl H rfl (Try.sizeOf73 _) ?_; exact hΦ _ _ (Sub.refl _) H) | (refine G_pNi 1 _ _ rfl (Try.isAgg73 _) rfl H rfl (Try.sizeOf73 _) ?_; exact hΦ _ _ (Sub.refl _) H) | (refine G_pNi 2 _ _ rfl (Try.isAgg73 _) rfl H rfl (Try.sizeOf73 _) ?_; exact hΦ _ _ (Sub.refl _) H) | (refine G_pNi 3 _ _ rfl (Try.isAgg73 _) rfl H rfl (Try.sizeOf73 _) ?_; exact hΦ _ _ (Sub.refl _) H) | (refine G_s1 _ _ rfl (Try.isAgg73 _) rfl H (hC.mono hs) 0 rfl rfl ?_; exact hΦ _ _ (Sub.refl _) H) | (refine G_s1 _ _ rfl (Try.isAgg73 _) rfl H (hC.mono hs) _ rfl rfl ?_; exact hΦ _ _ (Sub.refl _) H) | (refine G_sN _ _ rfl (Try.isAgg73 _) rfl H (hC.mono hs) (Try.sizeOf73 _) ?_; exact hΦ _ _ (Sub.refl _) H)
      apply ObO.valg
      · intro x; rfl
      · intro s' y hG; simp only [List.nil_append, List.cons_append] at hG; have eg : y 5 = _ := dh_get hG 5 rfl (by kernel_rfl); simp only [eg]; first | exact wanted_t rfl rfl rfl | exact wanted_vt rfl rfl rfl
      · intro hc s' w' y Φ R hs H hG hΦ; simp only [List.nil_append, List.cons_append] at hG; have e6 : y 6 = _ := dh_get hG 6 rfl (by kernel_rfl); have e7 : y 7 = _ := dh_get hG 7 rfl (by kernel_rfl); (first | rw [vg_of hc] at e6 | rw [vg_of (and_l hc)] at e6 | rw [vg_of (and_l (and_l hc))] at e6 | rw [vg_of (and_l (and_l (and_l hc)))] at e6 | rw [vg_and hc] at e6 | skip); (first | rw [vg_of hc] at e7 | rw [vg_of (and_l hc)] at e7 | rw [vg_of (and_l (and_l hc))] at e7 | rw [vg_of (and_l (and_l (and_l hc)))] at e7 | rw [vg_and hc] at e7 | skip); have HC := Lib.hid hc; clear hc; simp only [e6, e7]; (refine G_lookup mk_thing 2 83 _ _ rfl Try.underlying83 (k := thingOf o) hok hBA.ok hBA.uniq rfl rfl H rfl (Try.zeroValue4 _) ?_; rw [hlk.out]; exact hΦ _ _ (Sub.refl _) H)
      apply ObO.valg
      · intro x; rfl
      · intro s' y hG; simp only [List.nil_append, List.cons_append] at hG; have eg : y 5 = _ := dh_get hG 5 rfl (by kernel_rfl); simp only [eg]; first | exact wanted_t rfl rfl rfl | exact wanted_vt rfl rfl rfl
      · intro hc s' w' y Φ R hs H hG hΦ; simp only [List.nil_append, List.cons_append] at hG; have e8 : y 8 = _ := dh_get hG 8 rfl (by kernel_rfl); (first | rw [vg_of hc] at e8 | rw [vg_of (and_l hc)] at e8 | rw [vg_of (and_l (and_l hc))] at e8 | rw [vg_of (and_l (and_l (and_l hc)))] at e8 | rw [vg_and hc] at e8 | skip); have HC := Lib.hid hc; clear hc; simp only [e8]; (go_simp; exact hΦ _ _ (Sub.refl _) H)
      apply ObO.valw
      · intro x; rfl
      · intro s' w' y Φ R hs H hG hΦ; simp only [List.nil_append, List.cons_append] at hG; have e5 : y 5 = _ := dh_get hG 5 rfl (by kernel_rfl); have e9 : y 9 = _ := dh_get hG 9 rfl (by kernel_rfl); simp only [e5, e9]; refine wantG rfl ?_; (refine G_and _ _ _ rfl rfl rfl rfl ?_; exact hΦ _ _ (Sub.refl _) H)
      clear H
      intro s3 w3 yy hs3 H hG
      replace H := (show Holds _ _ ([] ++ _) _ from H); rw [List.nil_append] at H
      simp only [List.nil_append, List.cons_append] at hG
      have e0 : yy 0 = _ := gh_get hG 0 rfl
      have e1 : yy 1 = _ := gh_get hG 1 rfl
      have e2 : yy 2 = _ := gh_get hG 2 rfl
      have e3 : yy 3 = _ := gh_get hG 3 rfl
      have e4 : yy 4 = _ := gh_get hG 4 rfl
      have e5 : yy 5 = _ := gh_get hG 5 rfl
      have e6 : yy 6 = _ := gh_get hG 6 rfl
      have e7 : yy 7 = _ := gh_get hG 7 rfl
      have e8 : yy 8 = _ := gh_get hG 8 rfl
      have e9 : yy 9 = _ := gh_get hG 9 rfl
      have e10 : yy 10 = _ := gh_get hG 10 rfl
      simp only [e0, e1, e2, e3, e4, e5, e6, e7, e8, e9, e10]
      clear hG e0 e1 e2 e3 e4 e5 e6 e7 e8 e9 e10
      replace H := H.forget hs3
      refine list_end ?_
      refine then_norm ?_
      refine wp_cond_split rfl (fun hc => ?_) (fun hc => ?_)
      · skip
        have hroom : (ys.length + 1) * kI.by_ ≤ 140737488355328 := by show (ys.length + 1) * 8 ≤ _; omega
        refine wp_region_lit ?_
        apply seq_op rfl
        · intro Φ hΦ; go_simp; exact hΦ
        (try simp only [Act.put, List.setIfInBounds_toArray, List.set_cons_succ, List.set_cons_zero])
        apply seq_op rfl
        · intro Φ hΦ; go_simp; exact hΦ
        (try simp only [Act.put, List.setIfInBounds_toArray, List.set_cons_succ, List.set_cons_zero])
        refine OpG.list rfl ?_; refine SL_1 rfl rfl Try.underlying23 Try.sizeOf3 Try.zeroValue3 rfl rfl (by decide) (by decide) H ?_; clear H; intro b35 w1 H; (try simp only [Value.cells] at H)
        (try simp only [Act.put, List.setIfInBounds_toArray, List.set_cons_succ, List.set_cons_zero])
        refine OpG.list rfl ?_; refine AP_1 3 kI_at _ _ rfl (show kI.K s (k : Int) [.int .i64 k] from ⟨rfl, by constructor <;> omega⟩) H rfl rfl rfl hroom ?_; clear H; intro v36 w1 H; (try simp only [List.set_cons_succ, List.set_cons_zero] at H)
        (try simp only [Act.put, List.setIfInBounds_toArray, List.set_cons_succ, List.set_cons_zero])
        apply seq_op rfl
        · intro Φ hΦ; go_simp; exact hΦ
        (try simp only [Act.put, List.setIfInBounds_toArray, List.set_cons_succ, List.set_cons_zero])
        refine list_end ?_
        refine then_norm ?_
        refine wp_draw_obO (k := 16) (sz := 55) (List.replicate 16 16) (fun _ => []) mixed (by simp) rfl (by kernel_rfl) (by kernel_rfl) (by kernel_rfl) H (by simp only [List.take_succ_cons, List.take_zero]; exact rfl) (by simp only [List.drop_succ_cons, List.drop_zero]; exact rfl)
          (fun y => by simp only [ov, Act.put, List.setIfInBounds_toArray, List.set_cons_succ, List.set_cons_zero, Nat.zero_add, Nat.reduceAdd]; exact rfl) ?_
        apply ObO.valw
        · intro x; rfl
        · intro s' w' y Φ R hs H hG hΦ; skip; refine wantG rfl ?_; (go_simp; exact hΦ _ _ (Sub.refl _) H)
        apply ObO.valw
        · intro x; rfl
        · intro s' w' y Φ R hs H hG hΦ; skip; refine wantG rfl ?_; first | (refine L_1 0 _ _ rfl (Try.isAgg73 _) rfl H rfl rfl ?_; exact hΦ _ _ (Sub.refl _) H) | (refine L_1 1 _ _ rfl (Try.isAgg73 _) rfl H rfl rfl ?_; exact hΦ _ _ (Sub.refl _) H) | (refine L_1 2 _ _ rfl (Try.isAgg73 _) rfl H rfl rfl ?_; exact hΦ _ _ (Sub.refl _) H) | (refine L_1 3 _ _ rfl (Try.isAgg73 _) rfl H rfl rfl ?_; exact hΦ _ _ (Sub.refl _) H) | (refine G_pNi 0 _ _ rfl (Try.isAgg73 _) rfl H rfl (Try.sizeOf73 _) ?_; exact hΦ _ _ (Sub.refl _) H) | (refine G_pNi 1 _ _ rfl (Try.isAgg73 _) rfl H rfl (Try.sizeOf73 _) ?_; exact hΦ _ _ (Sub.refl _) H) | (refine G_pNi 2 _ _ rfl (Try.isAgg73 _) rfl H rfl (Try.sizeOf73 _) ?_; exact hΦ _ _ (Sub.refl _) H) | (refine G_pNi 3 _ _ rfl (Try.isAgg73 _) rfl H rfl (Try.sizeOf73 _) ?_; exact hΦ _ _ (Sub.refl _) H) | (refine G_s1 _ _ rfl (Try.isAgg73 _) rfl H (hC.mono hs) 0 rfl rfl ?_; exact hΦ _ _ (Sub.refl _) H) | (refine G_s1 _ _ rfl (Try.isAgg73 _) rfl H (hC.mono hs) _ rfl rfl ?_; exact hΦ _ _ (Sub.refl _) H) | (refine G_sN _ _ rfl (Try.isAgg73 _) rfl H (hC.mono hs) (Try.sizeOf73 _) ?_; exact hΦ _ _ (Sub.refl _) H)
        apply ObO.valw
        · intro x; rfl
        · intro s' w' y Φ R hs H hG hΦ; skip; refine wantG rfl ?_; (go_simp; exact hΦ _ _ (Sub.refl _) H)
        apply ObO.valw
        · intro x; rfl
        · intro s' w' y Φ R hs H hG hΦ; skip; refine wantG rfl ?_; first | (refine L_1 0 _ _ rfl (Try.isAgg73 _) rfl H rfl rfl ?_; exact hΦ _ _ (Sub.refl _) H) | (refine L_1 1 _ _ rfl (Try.isAgg73 _) rfl H rfl rfl ?_; exact hΦ _ _ (Sub.refl _) H) | (refine L_1 2 _ _ rfl (Try.isAgg73 _) rfl H rfl rfl ?_; exact hΦ _ _ (Sub.refl _) H) | (refine L_1 3 _ _ rfl (Try.isAgg73 _) rfl H rfl rfl ?_; exact hΦ _ _ (Sub.refl _) H) | (refine G_pNi 0 _ _ rfl (Try.isAgg73 _) rfl H rfl (Try.sizeOf73 _) ?_; exact hΦ _ _ (Sub.refl _) H) | (refine G_pNi 1 _ _ rfl (Try.isAgg73 _) rfl H rfl (Try.sizeOf73 _) ?_; exact hΦ _ _ (Sub.refl _) H) | (refine G_pNi 2 _ _ rfl (Try.isAgg73 _) rfl H rfl (Try.sizeOf73 _) ?_; exact hΦ _ _ (Sub.refl _) H) | (refine G_pNi 3 _ _ rfl (Try.isAgg73 _) rfl H rfl (Try.sizeOf73 _) ?_; exact hΦ _ _ (Sub.refl _) H) | (refine G_s1 _ _ rfl (Try.isAgg73 _) rfl H (hC.mono hs) 0 rfl rfl ?_; exact hΦ _ _ (Sub.refl _) H) | (refine G_s1 _ _ rfl (Try.isAgg73 _) rfl H (hC.mono hs) _ rfl rfl ?_; exact hΦ _ _ (Sub.refl _) H) | (refine G_sN _ _ rfl (Try.isAgg73 _) rfl H (hC.mono hs) (Try.sizeOf73 _) ?_; exact hΦ _ _ (Sub.refl _) H)
        apply ObO.valw
        · intro x; rfl
        · intro s' w' y Φ R hs H hG hΦ; simp only [List.nil_append, List.cons_append] at hG; have e2 : y 2 = _ := dh_get hG 2 rfl (by kernel_rfl); have e3 : y 3 = _ := dh_get hG 3 rfl (by kernel_rfl); simp only [e2, e3]; refine wantG rfl ?_; (refine G_lookup mk_thing 2 83 _ _ rfl Try.underlying83 (k := thingOf o) hok hBA.ok hBA.uniq rfl rfl H rfl (Try.zeroValue4 _) ?_; rw [hlk.out]; exact hΦ _ _ (Sub.refl _) H)
        apply ObO.valw
        · intro x; rfl
        · intro s' w' y Φ R hs H hG hΦ; simp only [List.nil_append, List.cons_append] at hG; have e4 : y 4 = _ := dh_get hG 4 rfl (by kernel_rfl); simp only [e4]; refine wantG rfl ?_; (go_simp; exact hΦ _ _ (Sub.refl _) H)
        apply ObO.valg
        · intro x; rfl
        · intro s' y hG; simp only [List.nil_append, List.cons_append] at hG; have eg : y 5 = _ := dh_get hG 5 rfl (by kernel_rfl); simp only [eg]; first | exact wanted_f rfl rfl rfl | exact wanted_vf rfl rfl rfl
        · intro hc s' w' y Φ R hs H hG hΦ; have HC := Lib.hid hc; clear hc; skip; (go_simp; exact hΦ _ _ (Sub.refl _) H)
        apply ObO.valg
        · intro x; rfl
        · intro s' y hG; simp only [List.nil_append, List.cons_append] at hG; have eg : y 5 = _ := dh_get hG 5 rfl (by kernel_rfl); simp only [eg]; first | exact wanted_f rfl rfl rfl | exact wanted_vf rfl rfl rfl
        · intro hc s' w' y Φ R hs H hG hΦ; simp only [List.nil_append, List.cons_append] at hG; have e6 : y 6 = _ := dh_get hG 6 rfl (by kernel_rfl); (first | rw [vg_of hc] at e6 | rw [vg_of (and_l hc)] at e6 | rw [vg_of (and_l (and_l hc))] at e6 | rw [vg_of (and_l (and_l (and_l hc)))] at e6 | rw [vg_and hc] at e6 | skip); have HC := Lib.hid hc; clear hc; simp only [e6]; (go_simp; exact hΦ _ _ (Sub.refl _) H)
        apply ObO.valg
        · intro x; rfl
        · intro s' y hG; simp only [List.nil_append, List.cons_append] at hG; have eg : y 7 = _ := dh_get hG 7 rfl (by kernel_rfl); simp only [eg]; first | exact wanted_t rfl rfl rfl | exact wanted_vt rfl rfl rfl
        · intro hc s' w' y Φ R hs H hG hΦ; have HC := Lib.hid hc; clear hc; skip; first | (refine L_1 0 _ _ rfl (Try.isAgg25 _) rfl H rfl rfl ?_; exact hΦ _ _ (Sub.refl _) H) | (refine L_1 1 _ _ rfl (Try.isAgg25 _) rfl H rfl rfl ?_; exact hΦ _ _ (Sub.refl _) H) | (refine L_1 2 _ _ rfl (Try.isAgg25 _) rfl H rfl rfl ?_; exact hΦ _ _ (Sub.refl _) H) | (refine L_1 3 _ _ rfl (Try.isAgg25 _) rfl H rfl rfl ?_; exact hΦ _ _ (Sub.refl _) H) | (refine G_pNi 0 _ _ rfl (Try.isAgg25 _) rfl H rfl (Try.sizeOf25 _) ?_; exact hΦ _ _ (Sub.refl _) H) | (refine G_pNi 1 _ _ rfl (Try.isAgg25 _) rfl H rfl (Try.sizeOf25 _) ?_; exact hΦ _ _ (Sub.refl _) H) | (refine G_pNi 2 _ _ rfl (Try.isAgg25 _) rfl H rfl (Try.sizeOf25 _) ?_; exact hΦ _ _ (Sub.refl _) H) | (refine G_pNi 3 _ _ rfl (Try.isAgg25 _) rfl H rfl (Try.sizeOf25 _) ?_; exact hΦ _ _ (Sub.refl _) H) | (refine G_s1 _ _ rfl (Try.isAgg25 _) rfl H (hC.mono hs) 0 rfl rfl ?_; exact hΦ _ _ (Sub.refl _) H) | (refine G_s1 _ _ rfl (Try.isAgg25 _) rfl H (hC.mono hs) _ rfl rfl ?_; exact hΦ _ _ (Sub.refl _) H) | (refine G_sN _ _ rfl (Try.isAgg25 _) rfl H (hC.mono hs) (Try.sizeOf25 _) ?_; exact hΦ _ _ (Sub.refl _) H)
        apply ObO.valg
        · intro x; rfl
        · intro s' y hG; simp only [List.nil_append, List.cons_append] at hG; have eg : y 7 = _ := dh_get hG 7 rfl (by kernel_rfl); simp only [eg]; first | exact wanted_t rfl rfl rfl | exact wanted_vt rfl rfl rfl
        · intro hc s' w' y Φ R hs H hG hΦ; simp only [List.nil_append, List.cons_append] at hG; have e8 : y 8 = _ := dh_get hG 8 rfl (by kernel_rfl); (first | rw [vg_of hc] at e8 | rw [vg_of (and_l hc)] at e8 | rw [vg_of (and_l (and_l hc))] at e8 | rw [vg_of (and_l (and_l (and_l hc)))] at e8 | rw [vg_and hc] at e8 | skip); have HC := Lib.hid hc; clear hc; simp only [e8]; (go_simp; refine (writes_any H).mono ?_; rintro e w2 ⟨rfl, H⟩; exact ⟨_, rfl, hΦ _ _ (Sub.refl _) H⟩)
        apply ObO.valg
        · intro x; rfl
        · intro s' y hG; simp only [List.nil_append, List.cons_append] at hG; have eg : y 7 = _ := dh_get hG 7 rfl (by kernel_rfl); simp only [eg]; first | exact wanted_t rfl rfl rfl | exact wanted_vt rfl rfl rfl
        · intro hc s' w' y Φ R hs H hG hΦ; simp only [List.nil_append, List.cons_append] at hG; have e9 : y 9 = _ := dh_get hG 9 rfl (by kernel_rfl); (first | rw [vg_of hc] at e9 | rw [vg_of (and_l hc)] at e9 | rw [vg_of (and_l (and_l hc))] at e9 | rw [vg_of (and_l (and_l (and_l hc)))] at e9 | rw [vg_and hc] at e9 | skip); have HC := Lib.hid hc; clear hc; simp only [e9]; (go_simp; exact hΦ _ _ (Sub.refl _) H)
        apply ObO.valg
        · intro x; rfl
        · intro s' y hG; simp only [List.nil_append, List.cons_append] at hG; have eg : y 10 = _ := dh_get hG 10 rfl (by kernel_rfl); simp only [eg]; first | exact wanted_f rfl rfl rfl | exact wanted_vf rfl rfl rfl
        · intro hc s' w' y Φ R hs H hG hΦ; have HC := Lib.hid hc; clear hc; skip; (go_simp; exact hΦ _ _ (Sub.refl _) H)
        apply ObO.valg
        · intro x; rfl
        · intro s' y hG; simp only [List.nil_append, List.cons_append] at hG; have eg : y 10 = _ := dh_get hG 10 rfl (by kernel_rfl); simp only [eg]; first | exact wanted_f rfl rfl rfl | exact wanted_vf rfl rfl rfl
        · intro hc s' w' y Φ R hs H hG hΦ; simp only [List.nil_append, List.cons_append] at hG; have e11 : y 11 = _ := dh_get hG 11 rfl (by kernel_rfl); (first | rw [vg_of hc] at e11 | rw [vg_of (and_l hc)] at e11 | rw [vg_of (and_l (and_l hc))] at e11 | rw [vg_of (and_l (and_l (and_l hc)))] at e11 | rw [vg_and hc] at e11 | skip); have HC := Lib.hid hc; clear hc; simp only [e11]; first | (refine L_1 0 _ _ rfl (Try.isAgg4 _) rfl H rfl rfl ?_; exact hΦ _ _ (Sub.refl _) H) | (refine L_1 1 _ _ rfl (Try.isAgg4 _) rfl H rfl rfl ?_; exact hΦ _ _ (Sub.refl _) H) | (refine L_1 2 _ _ rfl (Try.isAgg4 _) rfl H rfl rfl ?_; exact hΦ _ _ (Sub.refl _) H) | (refine L_1 3 _ _ rfl (Try.isAgg4 _) rfl H rfl rfl ?_; exact hΦ _ _ (Sub.refl _) H) | (refine G_pNi 0 _ _ rfl (Try.isAgg4 _) rfl H rfl (Try.sizeOf4 _) ?_; exact hΦ _ _ (Sub.refl _) H) | (refine G_pNi 1 _ _ rfl (Try.isAgg4 _) rfl H rfl (Try.sizeOf4 _) ?_; exact hΦ _ _ (Sub.refl _) H) | (refine G_pNi 2 _ _ rfl (Try.isAgg4 _) rfl H rfl (Try.sizeOf4 _) ?_; exact hΦ _ _ (Sub.refl _) H) | (refine G_pNi 3 _ _ rfl (Try.isAgg4 _) rfl H rfl (Try.sizeOf4 _) ?_; exact hΦ _ _ (Sub.refl _) H) | (refine G_s1 _ _ rfl (Try.isAgg4 _) rfl H (hC.mono hs) 0 rfl rfl ?_; exact hΦ _ _ (Sub.refl _) H) | (refine G_s1 _ _ rfl (Try.isAgg4 _) rfl H (hC.mono hs) _ rfl rfl ?_; exact hΦ _ _ (Sub.refl _) H) | (refine G_sN _ _ rfl (Try.isAgg4 _) rfl H (hC.mono hs) (Try.sizeOf4 _) ?_; exact hΦ _ _ (Sub.refl _) H)
        apply ObO.valg
        · intro x; rfl
        · intro s' y hG; simp only [List.nil_append, List.cons_append] at hG; have eg : y 7 = _ := dh_get hG 7 rfl (by kernel_rfl); simp only [eg]; first | exact wanted_t rfl rfl rfl | exact wanted_vt rfl rfl rfl
        · intro hc s' w' y Φ R hs H hG hΦ; simp only [List.nil_append, List.cons_append] at hG; have e10 : y 10 = _ := dh_get hG 10 rfl (by kernel_rfl); have e12 : y 12 = _ := dh_get hG 12 rfl (by kernel_rfl); (first | rw [vg_of hc] at e10 | rw [vg_of (and_l hc)] at e10 | rw [vg_of (and_l (and_l hc))] at e10 | rw [vg_of (and_l (and_l (and_l hc)))] at e10 | rw [vg_and hc] at e10 | skip); (first | rw [vg_of hc] at e12 | rw [vg_of (and_l hc)] at e12 | rw [vg_of (and_l (and_l hc))] at e12 | rw [vg_of (and_l (and_l (and_l hc)))] at e12 | rw [vg_and hc] at e12 | skip); have HC := Lib.hid hc; clear hc; simp only [e10, e12]; (refine G_or _ _ _ rfl rfl rfl rfl ?_; exact hΦ _ _ (Sub.refl _) H)
        apply ObO.valg
        · intro x; rfl
        · intro s' y hG; simp only [List.nil_append, List.cons_append] at hG; have eg : y 5 = _ := dh_get hG 5 rfl (by kernel_rfl); simp only [eg]; first | exact wanted_f rfl rfl rfl | exact wanted_vf rfl rfl rfl
        · intro hc s' w' y Φ R hs H hG hΦ; simp only [List.nil_append, List.cons_append] at hG; have e7 : y 7 = _ := dh_get hG 7 rfl (by kernel_rfl); have e13 : y 13 = _ := dh_get hG 13 rfl (by kernel_rfl); (first | rw [vg_of hc] at e7 | rw [vg_of (and_l hc)] at e7 | rw [vg_of (and_l (and_l hc))] at e7 | rw [vg_of (and_l (and_l (and_l hc)))] at e7 | rw [vg_and hc] at e7 | skip); (first | rw [vg_of hc] at e13 | rw [vg_of (and_l hc)] at e13 | rw [vg_of (and_l (and_l hc))] at e13 | rw [vg_of (and_l (and_l (and_l hc)))] at e13 | rw [vg_and hc] at e13 | skip); have HC := Lib.hid hc; clear hc; simp only [e7, e13]; (refine G_and _ _ _ rfl rfl rfl rfl ?_; exact hΦ _ _ (Sub.refl _) H)
        apply ObO.valw
        · intro x; rfl
        · intro s' w' y Φ R hs H hG hΦ; simp only [List.nil_append, List.cons_append] at hG; have e5 : y 5 = _ := dh_get hG 5 rfl (by kernel_rfl); have e14 : y 14 = _ := dh_get hG 14 rfl (by kernel_rfl); simp only [e5, e14]; refine wantG rfl ?_; (refine G_or _ _ _ rfl rfl rfl rfl ?_; exact hΦ _ _ (Sub.refl _) H)
        clear H
        intro s3 w3 yy hs3 H hG
        replace H := (show Holds _ _ ([] ++ _) _ from H); rw [List.nil_append] at H
        simp only [List.nil_append, List.cons_append] at hG
        have e0 : yy 0 = _ := gh_get hG 0 rfl
        have e1 : yy 1 = _ := gh_get hG 1 rfl
        have e2 : yy 2 = _ := gh_get hG 2 rfl
        have e3 : yy 3 = _ := gh_get hG 3 rfl
        have e4 : yy 4 = _ := gh_get hG 4 rfl
        have e5 : yy 5 = _ := gh_get hG 5 rfl
        have e6 : yy 6 = _ := gh_get hG 6 rfl
        have e7 : yy 7 = _ := gh_get hG 7 rfl
        have e8 : yy 8 = _ := gh_get hG 8 rfl
        have e9 : yy 9 = _ := gh_get hG 9 rfl
        have e10 : yy 10 = _ := gh_get hG 10 rfl
        have e11 : yy 11 = _ := gh_get hG 11 rfl
        have e12 : yy 12 = _ := gh_get hG 12 rfl
        have e13 : yy 13 = _ := gh_get hG 13 rfl
        have e14 : yy 14 = _ := gh_get hG 14 rfl
        have e15 : yy 15 = _ := gh_get hG 15 rfl
        simp only [e0, e1, e2, e3, e4, e5, e6, e7, e8, e9, e10, e11, e12, e13, e14, e15]
        clear hG e0 e1 e2 e3 e4 e5 e6 e7 e8 e9 e10 e11 e12 e13 e14 e15
        replace H := H.forget hs3
        refine OpG.list rfl ?_; refine G_mapUpdate mk_thing 2 83 _ _ _ rfl Try.underlying83 (k := thingOf o) hok hBA.ok hBA.uniq rfl rfl rfl H rfl ?_
        clear H; intro w1 H; simp only [List.set_cons_succ, List.set_cons_zero] at H
        replace H := H.drop.drop
        refine list_end ?_
        refine block_norm ?_
        refine then_norm ?_
        have hw := i64w (n := (k : Int) + 1) (by omega) (by omega)
        refine wp_region_lit ?_
        apply seq_op rfl
        · intro Φ hΦ; go_simp; exact hΦ
        (try simp only [Act.put, List.setIfInBounds_toArray, List.set_cons_succ, List.set_cons_zero])
        apply seq_op rfl
        · intro Φ hΦ; go_simp; exact hΦ
        (try simp only [Act.put, List.setIfInBounds_toArray, List.set_cons_succ, List.set_cons_zero])
        refine list_end ?_
        refine then_norm ?_
        refine ⟨⟨⟨rfl, rfl, rfl, rfl, rfl, rfl, rfl, rfl, rfl⟩, rfl⟩, ?_, by simp [intOf]; omega⟩
        exact ⟨k + 1, _, _, ys ++ [(k : Int)], by omega, by go_num, by rw [List.append_assoc, ← HR.out, hdr.out]; simp only [extF]; rw [if_pos (by exact hc)]; rfl, by rw [List.length_append, List.length_singleton]; omega, hBA.put hok _, H⟩
      · skip
        refine wp_skip ?_
        refine then_norm ?_
        refine wp_draw_obO (k := 16) (sz := 55) (List.replicate 16 16) (fun _ => []) mixed (by simp) rfl (by kernel_rfl) (by kernel_rfl) (by kernel_rfl) H (by simp only [List.take_succ_cons, List.take_zero]; exact rfl) (by simp only [List.drop_succ_cons, List.drop_zero]; exact rfl)
          (fun y => by simp only [ov, Act.put, List.setIfInBounds_toArray, List.set_cons_succ, List.set_cons_zero, Nat.zero_add, Nat.reduceAdd]; exact rfl) ?_
        apply ObO.valw
        · intro x; rfl
        · intro s' w' y Φ R hs H hG hΦ; skip; refine wantG rfl ?_; (go_simp; exact hΦ _ _ (Sub.refl _) H)
        apply ObO.valw
        · intro x; rfl
        · intro s' w' y Φ R hs H hG hΦ; skip; refine wantG rfl ?_; first | (refine L_1 0 _ _ rfl (Try.isAgg73 _) rfl H rfl rfl ?_; exact hΦ _ _ (Sub.refl _) H) | (refine L_1 1 _ _ rfl (Try.isAgg73 _) rfl H rfl rfl ?_; exact hΦ _ _ (Sub.refl _) H) | (refine L_1 2 _ _ rfl (Try.isAgg73 _) rfl H rfl rfl ?_; exact hΦ _ _ (Sub.refl _) H) | (refine L_1 3 _ _ rfl (Try.isAgg73 _) rfl H rfl rfl ?_; exact hΦ _ _ (Sub.refl _) H) | (refine G_pNi 0 _ _ rfl (Try.isAgg73 _) rfl H rfl (Try.sizeOf73 _) ?_; exact hΦ _ _ (Sub.refl _) H) | (refine G_pNi 1 _ _ rfl (Try.isAgg73 _) rfl H rfl (Try.sizeOf73 _) ?_; exact hΦ _ _ (Sub.refl _) H) | (refine G_pNi 2 _ _ rfl (Try.isAgg73 _) rfl H rfl (Try.sizeOf73 _) ?_; exact hΦ _ _ (Sub.refl _) H) | (refine G_pNi 3 _ _ rfl (Try.isAgg73 _) rfl H rfl (Try.sizeOf73 _) ?_; exact hΦ _ _ (Sub.refl _) H) | (refine G_s1 _ _ rfl (Try.isAgg73 _) rfl H (hC.mono hs) 0 rfl rfl ?_; exact hΦ _ _ (Sub.refl _) H) | (refine G_s1 _ _ rfl (Try.isAgg73 _) rfl H (hC.mono hs) _ rfl rfl ?_; exact hΦ _ _ (Sub.refl _) H) | (refine G_sN _ _ rfl (Try.isAgg73 _) rfl H (hC.mono hs) (Try.sizeOf73 _) ?_; exact hΦ _ _ (Sub.refl _) H)
        apply ObO.valw
        · intro x; rfl
        · intro s' w' y Φ R hs H hG hΦ; skip; refine wantG rfl ?_; (go_simp; exact hΦ _ _ (Sub.refl _) H)
        apply ObO.valw
        · intro x; rfl
        · intro s' w' y Φ R hs H hG hΦ; skip; refine wantG rfl ?_; first | (refine L_1 0 _ _ rfl (Try.isAgg73 _) rfl H rfl rfl ?_; exact hΦ _ _ (Sub.refl _) H) | (refine L_1 1 _ _ rfl (Try.isAgg73 _) rfl H rfl rfl ?_; exact hΦ _ _ (Sub.refl _) H) | (refine L_1 2 _ _ rfl (Try.isAgg73 _) rfl H rfl rfl ?_; exact hΦ _ _ (Sub.refl _) H) | (refine L_1 3 _ _ rfl (Try.isAgg73 _) rfl H rfl rfl ?_; exact hΦ _ _ (Sub.refl _) H) | (refine G_pNi 0 _ _ rfl (Try.isAgg73 _) rfl H rfl (Try.sizeOf73 _) ?_; exact hΦ _ _ (Sub.refl _) H) | (refine G_pNi 1 _ _ rfl (Try.isAgg73 _) rfl H rfl (Try.sizeOf73 _) ?_; exact hΦ _ _ (Sub.refl _) H) | (refine G_pNi 2 _ _ rfl (Try.isAgg73 _) rfl H rfl (Try.sizeOf73 _) ?_; exact hΦ _ _ (Sub.refl _) H) | (refine G_pNi 3 _ _ rfl (Try.isAgg73 _) rfl H rfl (Try.sizeOf73 _) ?_; exact hΦ _ _ (Sub.refl _) H) | (refine G_s1 _ _ rfl (Try.isAgg73 _) rfl H (hC.mono hs) 0 rfl rfl ?_; exact hΦ _ _ (Sub.refl _) H) | (refine G_s1 _ _ rfl (Try.isAgg73 _) rfl H (hC.mono hs) _ rfl rfl ?_; exact hΦ _ _ (Sub.refl _) H) | (refine G_sN _ _ rfl (Try.isAgg73 _) rfl H (hC.mono hs) (Try.sizeOf73 _) ?_; exact hΦ _ _ (Sub.refl _) H)
        apply ObO.valw
        · intro x; rfl
        · intro s' w' y Φ R hs H hG hΦ; simp only [List.nil_append, List.cons_append] at hG; have e2 : y 2 = _ := dh_get hG 2 rfl (by kernel_rfl); have e3 : y 3 = _ := dh_get hG 3 rfl (by kernel_rfl); simp only [e2, e3]; refine wantG rfl ?_; (refine G_lookup mk_thing 2 83 _ _ rfl Try.underlying83 (k := thingOf o) hok hBA.ok hBA.uniq rfl rfl H rfl (Try.zeroValue4 _) ?_; rw [hlk.out]; exact hΦ _ _ (Sub.refl _) H)
        apply ObO.valw
        · intro x; rfl
        · intro s' w' y Φ R hs H hG hΦ; simp only [List.nil_append, List.cons_append] at hG; have e4 : y 4 = _ := dh_get hG 4 rfl (by kernel_rfl); simp only [e4]; refine wantG rfl ?_; (go_simp; exact hΦ _ _ (Sub.refl _) H)
        apply ObO.valg
        · intro x; rfl
        · intro s' y hG; simp only [List.nil_append, List.cons_append] at hG; have eg : y 5 = _ := dh_get hG 5 rfl (by kernel_rfl); simp only [eg]; first | exact wanted_f rfl rfl rfl | exact wanted_vf rfl rfl rfl
        · intro hc s' w' y Φ R hs H hG hΦ; have HC := Lib.hid hc; clear hc; skip; (go_simp; exact hΦ _ _ (Sub.refl _) H)
        apply ObO.valg
        · intro x; rfl
        · intro s' y hG; simp only [List.nil_append, List.cons_append] at hG; have eg : y 5 = _ := dh_get hG 5 rfl (by kernel_rfl); simp only [eg]; first | exact wanted_f rfl rfl rfl | exact wanted_vf rfl rfl rfl
        · intro hc s' w' y Φ R hs H hG hΦ; simp only [List.nil_append, List.cons_append] at hG; have e6 : y 6 = _ := dh_get hG 6 rfl (by kernel_rfl); (first | rw [vg_of hc] at e6 | rw [vg_of (and_l hc)] at e6 | rw [vg_of (and_l (and_l hc))] at e6 | rw [vg_of (and_l (and_l (and_l hc)))] at e6 | rw [vg_and hc] at e6 | skip); have HC := Lib.hid hc; clear hc; simp only [e6]; (go_simp; exact hΦ _ _ (Sub.refl _) H)
        apply ObO.valg
        · intro x; rfl
        · intro s' y hG; simp only [List.nil_append, List.cons_append] at hG; have eg : y 7 = _ := dh_get hG 7 rfl (by kernel_rfl); simp only [eg]; first | exact wanted_t rfl rfl rfl | exact wanted_vt rfl rfl rfl
        · intro hc s' w' y Φ R hs H hG hΦ; have HC := Lib.hid hc; clear hc; skip; first | (refine L_1 0 _ _ rfl (Try.isAgg25 _) rfl H rfl rfl ?_; exact hΦ _ _ (Sub.refl _) H) | (refine L_1 1 _ _ rfl (Try.isAgg25 _) rfl H rfl rfl ?_; exact hΦ _ _ (Sub.refl _) H) | (refine L_1 2 _ _ rfl (Try.isAgg25 _) rfl H rfl rfl ?_; exact hΦ _ _ (Sub.refl _) H) | (refine L_1 3 _ _ rfl (Try.isAgg25 _) rfl H rfl rfl ?_; exact hΦ _ _ (Sub.refl _) H) | (refine G_pNi 0 _ _ rfl (Try.isAgg25 _) rfl H rfl (Try.sizeOf25 _) ?_; exact hΦ _ _ (Sub.refl _) H) | (refine G_pNi 1 _ _ rfl (Try.isAgg25 _) rfl H rfl (Try.sizeOf25 _) ?_; exact hΦ _ _ (Sub.refl _) H) | (refine G_pNi 2 _ _ rfl (Try.isAgg25 _) rfl H rfl (Try.sizeOf25 _) ?_; exact hΦ _ _ (Sub.refl _) H) | (refine G_pNi 3 _ _ rfl (Try.isAgg25 _) rfl H rfl (Try.sizeOf25 _) ?_; exact hΦ _ _ (Sub.refl _) H) | (refine G_s1 _ _ rfl (Try.isAgg25 _) rfl H (hC.mono hs) 0 rfl rfl ?_; exact hΦ _ _ (Sub.refl _) H) | (refine G_s1 _ _ rfl (Try.isAgg25 _) rfl H (hC.mono hs) _ rfl rfl ?_; exact hΦ _ _ (Sub.refl _) H) | (refine G_sN _ _ rfl (Try.isAgg25 _) rfl H (hC.mono hs) (Try.sizeOf25 _) ?_; exact hΦ _ _ (Sub.refl _) H)
        apply ObO.valg
        · intro x; rfl
        · intro s' y hG; simp only [List.nil_append, List.cons_append] at hG; have eg : y 7 = _ := dh_get hG 7 rfl (by kernel_rfl); simp only [eg]; first | exact wanted_t rfl rfl rfl | exact wanted_vt rfl rfl rfl
        · intro hc s' w' y Φ R hs H hG hΦ; simp only [List.nil_append, List.cons_append] at hG; have e8 : y 8 = _ := dh_get hG 8 rfl (by kernel_rfl); (first | rw [vg_of hc] at e8 | rw [vg_of (and_l hc)] at e8 | rw [vg_of (and_l (and_l hc))] at e8 | rw [vg_of (and_l (and_l (and_l hc)))] at e8 | rw [vg_and hc] at e8 | skip); have HC := Lib.hid hc; clear hc; simp only [e8]; (go_simp; refine (writes_any H).mono ?_; rintro e w2 ⟨rfl, H⟩; exact ⟨_, rfl, hΦ _ _ (Sub.refl _) H⟩)
        apply ObO.valg
        · intro x; rfl
        · intro s' y hG; simp only [List.nil_append, List.cons_append] at hG; have eg : y 7 = _ := dh_get hG 7 rfl (by kernel_rfl); simp only [eg]; first | exact wanted_t rfl rfl rfl | exact wanted_vt rfl rfl rfl
        · intro hc s' w' y Φ R hs H hG hΦ; simp only [List.nil_append, List.cons_append] at hG; have e9 : y 9 = _ := dh_get hG 9 rfl (by kernel_rfl); (first | rw [vg_of hc] at e9 | rw [vg_of (and_l hc)] at e9 | rw [vg_of (and_l (and_l hc))] at e9 | rw [vg_of (and_l (and_l (and_l hc)))] at e9 | rw [vg_and hc] at e9 | skip); have HC := Lib.hid hc; clear hc; simp only [e9]; (go_simp; exact hΦ _ _ (Sub.refl _) H)
        apply ObO.valg
        · intro x; rfl
        · intro s' y hG; simp only [List.nil_append, List.cons_append] at hG; have eg : y 10 = _ := dh_get hG 10 rfl (by kernel_rfl); simp only [eg]; first | exact wanted_f rfl rfl rfl | exact wanted_vf rfl rfl rfl
        · intro hc s' w' y Φ R hs H hG hΦ; have HC := Lib.hid hc; clear hc; skip; (go_simp; exact hΦ _ _ (Sub.refl _) H)
        apply ObO.valg
        · intro x; rfl
        · intro s' y hG; simp only [List.nil_append, List.cons_append] at hG; have eg : y 10 = _ := dh_get hG 10 rfl (by kernel_rfl); simp only [eg]; first | exact wanted_f rfl rfl rfl | exact wanted_vf rfl rfl rfl
        · intro hc s' w' y Φ R hs H hG hΦ; simp only [List.nil_append, List.cons_append] at hG; have e11 : y 11 = _ := dh_get hG 11 rfl (by kernel_rfl); (first | rw [vg_of hc] at e11 | rw [vg_of (and_l hc)] at e11 | rw [vg_of (and_l (and_l hc))] at e11 | rw [vg_of (and_l (and_l (and_l hc)))] at e11 | rw [vg_and hc] at e11 | skip); have HC := Lib.hid hc; clear hc; simp only [e11]; first | (refine L_1 0 _ _ rfl (Try.isAgg4 _) rfl H rfl rfl ?_; exact hΦ _ _ (Sub.refl _) H) | (refine L_1 1 _ _ rfl (Try.isAgg4 _) rfl H rfl rfl ?_; exact hΦ _ _ (Sub.refl _) H) | (refine L_1 2 _ _ rfl (Try.isAgg4 _) rfl H rfl rfl ?_; exact hΦ _ _ (Sub.refl _) H) | (refine L_1 3 _ _ rfl (Try.isAgg4 _) rfl H rfl rfl ?_; exact hΦ _ _ (Sub.refl _) H) | (refine G_pNi 0 _ _ rfl (Try.isAgg4 _) rfl H rfl (Try.sizeOf4 _) ?_; exact hΦ _ _ (Sub.refl _) H) | (refine G_pNi 1 _ _ rfl (Try.isAgg4 _) rfl H rfl (Try.sizeOf4 _) ?_; exact hΦ _ _ (Sub.refl _) H) | (refine G_pNi 2 _ _ rfl (Try.isAgg4 _) rfl H rfl (Try.sizeOf4 _) ?_; exact hΦ _ _ (Sub.refl _) H) | (refine G_pNi 3 _ _ rfl (Try.isAgg4 _) rfl H rfl (Try.sizeOf4 _) ?_; exact hΦ _ _ (Sub.refl _) H) | (refine G_s1 _ _ rfl (Try.isAgg4 _) rfl H (hC.mono hs) 0 rfl rfl ?_; exact hΦ _ _ (Sub.refl _) H) | (refine G_s1 _ _ rfl (Try.isAgg4 _) rfl H (hC.mono hs) _ rfl rfl ?_; exact hΦ _ _ (Sub.refl _) H) | (refine G_sN _ _ rfl (Try.isAgg4 _) rfl H (hC.mono hs) (Try.sizeOf4 _) ?_; exact hΦ _ _ (Sub.refl _) H)
        apply ObO.valg
        · intro x; rfl
        · intro s' y hG; simp only [List.nil_append, List.cons_append] at hG; have eg : y 7 = _ := dh_get hG 7 rfl (by kernel_rfl); simp only [eg]; first | exact wanted_t rfl rfl rfl | exact wanted_vt rfl rfl rfl
        · intro hc s' w' y Φ R hs H hG hΦ; simp only [List.nil_append, List.cons_append] at hG; have e10 : y 10 = _ := dh_get hG 10 rfl (by kernel_rfl); have e12 : y 12 = _ := dh_get hG 12 rfl (by kernel_rfl); (first | rw [vg_of hc] at e10 | rw [vg_of (and_l hc)] at e10 | rw [vg_of (and_l (and_l hc))] at e10 | rw [vg_of (and_l (and_l (and_l hc)))] at e10 | rw [vg_and hc] at e10 | skip); (first | rw [vg_of hc] at e12 | rw [vg_of (and_l hc)] at e12 | rw [vg_of (and_l (and_l hc))] at e12 | rw [vg_of (and_l (and_l (and_l hc)))] at e12 | rw [vg_and hc] at e12 | skip); have HC := Lib.hid hc; clear hc; simp only [e10, e12]; (refine G_or _ _ _ rfl rfl rfl rfl ?_; exact hΦ _ _ (Sub.refl _) H)
        apply ObO.valg
        · intro x; rfl
        · intro s' y hG; simp only [List.nil_append, List.cons_append] at hG; have eg : y 5 = _ := dh_get hG 5 rfl (by kernel_rfl); simp only [eg]; first | exact wanted_f rfl rfl rfl | exact wanted_vf rfl rfl rfl
        · intro hc s' w' y Φ R hs H hG hΦ; simp only [List.nil_append, List.cons_append] at hG; have e7 : y 7 = _ := dh_get hG 7 rfl (by kernel_rfl); have e13 : y 13 = _ := dh_get hG 13 rfl (by kernel_rfl); (first | rw [vg_of hc] at e7 | rw [vg_of (and_l hc)] at e7 | rw [vg_of (and_l (and_l hc))] at e7 | rw [vg_of (and_l (and_l (and_l hc)))] at e7 | rw [vg_and hc] at e7 | skip); (first | rw [vg_of hc] at e13 | rw [vg_of (and_l hc)] at e13 | rw [vg_of (and_l (and_l hc))] at e13 | rw [vg_of (and_l (and_l (and_l hc)))] at e13 | rw [vg_and hc] at e13 | skip); have HC := Lib.hid hc; clear hc; simp only [e7, e13]; (refine G_and _ _ _ rfl rfl rfl rfl ?_; exact hΦ _ _ (Sub.refl _) H)
        apply ObO.valw
        · intro x; rfl
        · intro s' w' y Φ R hs H hG hΦ; simp only [List.nil_append, List.cons_append] at hG; have e5 : y 5 = _ := dh_get hG 5 rfl (by kernel_rfl); have e14 : y 14 = _ := dh_get hG 14 rfl (by kernel_rfl); simp only [e5, e14]; refine wantG rfl ?_; (refine G_or _ _ _ rfl rfl rfl rfl ?_; exact hΦ _ _ (Sub.refl _) H)
        clear H
        intro s3 w3 yy hs3 H hG
        replace H := (show Holds _ _ ([] ++ _) _ from H); rw [List.nil_append] at H
        simp only [List.nil_append, List.cons_append] at hG
        have e0 : yy 0 = _ := gh_get hG 0 rfl
        have e1 : yy 1 = _ := gh_get hG 1 rfl
        have e2 : yy 2 = _ := gh_get hG 2 rfl
        have e3 : yy 3 = _ := gh_get hG 3 rfl
        have e4 : yy 4 = _ := gh_get hG 4 rfl
        have e5 : yy 5 = _ := gh_get hG 5 rfl
        have e6 : yy 6 = _ := gh_get hG 6 rfl
        have e7 : yy 7 = _ := gh_get hG 7 rfl
        have e8 : yy 8 = _ := gh_get hG 8 rfl
        have e9 : yy 9 = _ := gh_get hG 9 rfl
        have e10 : yy 10 = _ := gh_get hG 10 rfl
        have e11 : yy 11 = _ := gh_get hG 11 rfl
        have e12 : yy 12 = _ := gh_get hG 12 rfl
        have e13 : yy 13 = _ := gh_get hG 13 rfl
        have e14 : yy 14 = _ := gh_get hG 14 rfl
        have e15 : yy 15 = _ := gh_get hG 15 rfl
        simp only [e0, e1, e2, e3, e4, e5, e6, e7, e8, e9, e10, e11, e12, e13, e14, e15]
        clear hG e0 e1 e2 e3 e4 e5 e6 e7 e8 e9 e10 e11 e12 e13 e14 e15
        replace H := H.forget hs3
        refine OpG.list rfl ?_; refine G_mapUpdate mk_thing 2 83 _ _ _ rfl Try.underlying83 (k := thingOf o) hok hBA.ok hBA.uniq rfl rfl rfl H rfl ?_
        clear H; intro w1 H; simp only [List.set_cons_succ, List.set_cons_zero] at H
        replace H := H.drop.drop
        refine list_end ?_
        refine block_norm ?_
        refine then_norm ?_
        have hw := i64w (n := (k : Int) + 1) (by omega) (by omega)
        refine wp_region_lit ?_
        apply seq_op rfl
        · intro Φ hΦ; go_simp; exact hΦ
        (try simp only [Act.put, List.setIfInBounds_toArray, List.set_cons_succ, List.set_cons_zero])
        apply seq_op rfl
        · intro Φ hΦ; go_simp; exact hΦ
        (try simp only [Act.put, List.setIfInBounds_toArray, List.set_cons_succ, List.set_cons_zero])
        refine list_end ?_
        refine then_norm ?_
        refine ⟨⟨⟨rfl, rfl, rfl, rfl, rfl, rfl, rfl, rfl, rfl⟩, rfl⟩, ?_, by simp [intOf]; omega⟩
        exact ⟨k + 1, _, _, ys, by omega, by go_num, by rw [← HR.out, hdr.out]; simp only [extF]; rw [if_neg (nt (by exact hc))]; rfl, by omega, hBA.put hok _, H⟩
    · skip
      have hfin : k = xs.length := by
        have : ¬ k < xs.length := by simpa using hc
        omega
      subst hfin
      have hys := HR.out
      rw [List.drop_length, show extF g xs.length [] = [] from rfl, List.append_nil] at hys
      subst hys
      clear HR
      obtain ⟨s2, hs1, H, hrd0⟩ := Kin.Osl.fr H.drop
      have hrd := hrd0.unsh hs1
      clear hrd0
      refine wp_exit ?_
      refine then_exit ?_
      refine then_exit ?_
      refine block_exit ?_
      refine then_norm ?_
      refine wp_seq ?_
      refine wp_region_lit ?_
      apply seq_op rfl
      · intro Φ hΦ; go_simp; exact hΦ
      (try simp only [Act.put, List.setIfInBounds_toArray, List.set_cons_succ, List.set_cons_zero])
      apply seq_op rfl
      · intro Φ hΦ; go_simp; exact hΦ
      (try simp only [Act.put, List.setIfInBounds_toArray, List.set_cons_succ, List.set_cons_zero])
      refine list_end ?_
      refine then_norm ?_
      refine wp_ret ?_
      exact ret1 rfl (rv_tmp rfl) rfl ⟨_, s2, rfl, hs1, hrd, H⟩
end Go.Proofs.Yticpadjheelipaa
