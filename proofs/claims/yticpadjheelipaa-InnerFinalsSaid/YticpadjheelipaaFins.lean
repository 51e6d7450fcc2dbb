/- The inner layer: the last writes, walked. -/
import Derived.Test.YticpadjheelipaaOf
import Derived.Test.YticpadjheelipaaSimple
import Derived.Test.YticpadjheelipaaRFin
import Derived.Test.YticpadjheelipaaRange
import Derived.Test.YticpadjheelipaaSortI
namespace Go.Proofs.Yticpadjheelipaa
open Go.RowKit
set_option linter.all false
set_option maxRecDepth 10000

def finV : Nat → List Op' → List (Thing × Value) → List (Thing × Value)
  | _, [], l => l
  | i, o :: r, l => if (isOf o && (o.kind == 1 || o.kind == 3)) = true then finV (i + 1) r (mput l (thingOf o) (.int .i64 i)) else finV (i + 1) r l
structure FinAt (k : Nat) (l : List (Thing × Value)) : Prop where
  ok : ∀ p ∈ l, okT p.1
  uniq : Uniq l
  val : ∀ p ∈ l, ∃ j : Nat, j < k ∧ p.2 = .int .i64 j
  len : l.length ≤ k
theorem FinAt.nil : FinAt 0 [] := ⟨fun _ h => (List.not_mem_nil h).elim, List.Pairwise.nil, fun _ h => (List.not_mem_nil h).elim, Nat.le_refl _⟩
theorem FinAt.more {k : Nat} {l : List (Thing × Value)} (h : FinAt k l) : FinAt (k + 1) l := ⟨h.ok, h.uniq, fun p hp => let ⟨j, a, b⟩ := h.val p hp; ⟨j, by omega, b⟩, Nat.le_succ_of_le h.len⟩
theorem FinAt.put {k : Nat} {l : List (Thing × Value)} (h : FinAt k l) {t : Thing} (ht : okT t) : FinAt (k + 1) (mput l t (.int .i64 k)) := by
  refine ⟨fun p hp => ?_, mput_uniq h.uniq _ _, fun p hp => ?_, ?_⟩
  · rcases mput_mem hp with e | e
    · subst e; exact ht
    · exact h.ok p e
  · rcases mput_mem hp with e | e
    · subst e; exact ⟨k, by omega, rfl⟩
    · obtain ⟨j, a, b⟩ := h.val p e; exact ⟨j, by omega, b⟩
  · have := h.len
    unfold mput
    split
    · rw [List.length_map]; omega
    · rw [List.length_append, List.length_singleton]; omega
theorem ents_vals {es : Array MapEntry} {l : List (Thing × Value)} (h : es.toList.map (fun e => (e.key, e.val)) = l.map fun p => (encT p.1, p.2)) : es.toList.map (fun e => intOf e.val) = l.map fun p => intOf p.2 := by
  have := congrArg (List.map fun p : Value × Value => intOf p.2) h
  rw [List.map_map, List.map_map] at this
  exact this
theorem ent_val {es : Array MapEntry} {l : List (Thing × Value)} {k : Nat} (h : es.toList.map (fun e => (e.key, e.val)) = l.map fun p => (encT p.1, p.2)) {e : MapEntry} (he : e ∈ es.toList) (hv : ∀ p ∈ l, ∃ j : Nat, j < k ∧ p.2 = .int .i64 j) : ∃ z : Nat, z < k ∧ e.val = .int .i64 z := by
  have : (e.key, e.val) ∈ l.map fun p => (encT p.1, p.2) := by rw [← h]; exact List.mem_map.2 ⟨e, he, rfl⟩
  obtain ⟨p, hp, hpe⟩ := List.mem_map.1 this
  obtain ⟨j, a, b⟩ := hv p hp
  exact ⟨j, a, by rw [← b]; exact (congrArg Prod.snd hpe).symm⟩
theorem sortZ_fin {ys zs : List Int} (h : ys.Perm zs) : (sortZ ys).Perm zs ∧ (sortZ ys).Pairwise (· ≤ ·) := by
  refine ⟨(List.mergeSort_perm ys _).trans h, ?_⟩
  have := List.pairwise_mergeSort (le := fun x y : Int => decide (x ≤ y)) (fun a b c h1 h2 => by simp only [decide_eq_true_eq] at *; omega) (fun a b => by simp only [Bool.or_eq_true, decide_eq_true_eq]; omega) ys
  exact this.imp (fun h => by simpa using h)
set_option maxHeartbeats 4000000 in
theorem finals_spec {E : World} {s : SH} {L : List HP} {w : World} {v : Value} {xs : List Op'} (hv : kOp.Sl s v xs) (H : Holds E s L w) :
    Calls Try.prog 15 #[v] w fun e w' => ∃ v' s' R, e = .returned v' ∧ Sub s s' ∧ (List.Perm R ((finV 0 xs []).map fun p => intOf p.2) ∧ R.Pairwise (· ≤ ·)) ∧ kI.Sl s' v' R ∧ Holds E s' L w' := by
  have hv0 := hv
  obtain ⟨A, cap, rfl, h1, h2, -⟩ := hv
  have h2' : xs.length * 64 ≤ 140737488355328 := h2
  clear h2
  go_enter Try.func15, Try.ntmps15
  refine wp_seq ?_
  refine wp_region_lit ?_
  apply seq_op rfl
  · intro Φ hΦ; go_simp; exact hΦ
  (try simp only [Act.put, List.setIfInBounds_toArray, List.set_cons_succ, List.set_cons_zero])
  refine list_end ?_
  refine then_norm ?_
  refine wp_seq ?_
  refine wp_region_lit ?_
  refine OpG.list rfl ?_; refine G_makeMap (κ := Thing) (enc := encT) 79 rfl H ?_; clear H; intro r11 w1 H
  (try simp only [Act.put, List.setIfInBounds_toArray, List.set_cons_succ, List.set_cons_zero])
  apply seq_op rfl
  · intro Φ hΦ; go_simp; exact hΦ
  (try simp only [Act.put, List.setIfInBounds_toArray, List.set_cons_succ, List.set_cons_zero])
  refine list_end ?_
  refine then_norm ?_
  refine wp_seq ?_
  refine wp_seq ?_
  refine wp_region_lit ?_
  apply seq_op rfl
  · intro Φ hΦ; go_simp; exact hΦ
  (try simp only [Act.put, List.setIfInBounds_toArray, List.set_cons_succ, List.set_cons_zero])
  apply seq_op rfl
  · intro Φ hΦ; go_simp; exact hΦ
  (try simp only [Act.put, List.setIfInBounds_toArray, List.set_cons_succ, List.set_cons_zero])
  apply seq_op rfl
  · intro Φ hΦ; go_simp; exact hΦ
  (try simp only [Act.put, List.setIfInBounds_toArray, List.set_cons_succ, List.set_cons_zero])
  refine list_end ?_
  refine then_norm ?_
  refine wp_block ?_
  refine wp_loopF [none, none, none, none, some 4, some 5, some 6, some 7, none, none, none, none, none, none, some 14, some 15, some 16, some 17, some 18, some 19, some 20, some 21, some 22, some 23, some 24, some 25, some 26, some 27, some 28, some 29, some 30, some 31, some 32, none, none, none, none, none, none, none, none, none, none, none, none, none] rfl (by simp) (fun f w => ∃ k : Nat, ∃ l : List (Thing × Value), k ≤ xs.length ∧ f 14 = .int .i64 k ∧ finV k (xs.drop k) l = finV 0 xs [] ∧ FinAt k l ∧ Holds E s (mpP encT r11 l :: L) w) (fun f w => xs.length - (intOf (f 14)).toNat) ?_ ?_
  · skip
    exact ⟨0, [], Nat.zero_le _, rfl, by rw [List.drop_zero], FinAt.nil, H⟩
  · intro f w hI
    clear H
    obtain ⟨k, l, hk, h14, hR, hFA, H⟩ := hI
    have HR := Lib.hid hR
    clear hR
    simp only [ovm, mixM]
    simp only [h14]
    clear h14
    refine wp_seq ?_
    refine wp_region_lit ?_
    apply seq_op rfl
    · intro Φ hΦ; go_simp; exact hΦ
    (try simp only [Act.put, List.setIfInBounds_toArray, List.set_cons_succ, List.set_cons_zero])
    refine list_end ?_
    refine then_norm ?_
    refine wp_seq ?_
    refine wp_cond_split rfl (fun hc => ?_) (fun hc => ?_)
    · skip
      refine wp_skip ?_
      refine then_norm ?_
      refine wp_seq ?_
      refine wp_block ?_
      refine wp_seq ?_
      have hlt : k < xs.length := by simpa using hc
      obtain ⟨b, off, o, Al, cl, rfl, hdr0, hmem, hC, hol, hkind, hkey, hval⟩ := elemOp hv0 k hlt
      have hdr := Lib.hid hdr0
      clear hdr0
      have hok : okT (thingOf o) := Nat.le_trans hkey (by unfold maxLen; omega)
      refine wp_region_lit ?_
      apply seq_op rfl
      · intro Φ hΦ; go_simp; exact hΦ
      (try simp only [Act.put, List.setIfInBounds_toArray, List.set_cons_succ, List.set_cons_zero])
      apply seq_op rfl
      · intro Φ hΦ; go_simp; exact hΦ
      (try simp only [Act.put, List.setIfInBounds_toArray, List.set_cons_succ, List.set_cons_zero])
      apply seq_op rfl
      · intro Φ hΦ; first | (refine L_1 0 _ _ rfl (Try.isAgg25 _) rfl H rfl rfl ?_; exact hΦ) | (refine L_1 1 _ _ rfl (Try.isAgg25 _) rfl H rfl rfl ?_; exact hΦ) | (refine L_1 2 _ _ rfl (Try.isAgg25 _) rfl H rfl rfl ?_; exact hΦ) | (refine G_pNi 0 _ _ rfl (Try.isAgg25 _) rfl H rfl (Try.sizeOf25 _) ?_; exact hΦ) | (refine G_pNi 1 _ _ rfl (Try.isAgg25 _) rfl H rfl (Try.sizeOf25 _) ?_; exact hΦ) | (refine G_pNi 2 _ _ rfl (Try.isAgg25 _) rfl H rfl (Try.sizeOf25 _) ?_; exact hΦ) | (refine G_s1 _ _ rfl (Try.isAgg25 _) rfl H hC 0 rfl rfl ?_; exact hΦ) | (refine G_s1 _ _ rfl (Try.isAgg25 _) rfl H hC _ rfl rfl ?_; exact hΦ) | (refine G_sN _ _ rfl (Try.isAgg25 _) rfl H hC (Try.sizeOf25 _) ?_; exact hΦ)
      (try simp only [Act.put, List.setIfInBounds_toArray, List.set_cons_succ, List.set_cons_zero])
      refine OpG.list rfl ?_; refine G_alloc 25 rfl (Try.zeroValue25 _) H ?_; clear H; intro b5 w1 H; (try simp only [Value.cells] at H)
      (try simp only [Act.put, List.setIfInBounds_toArray, List.set_cons_succ, List.set_cons_zero])
      apply seq_op rfl
      · intro Φ hΦ; go_simp; exact hΦ
      (try simp only [Act.put, List.setIfInBounds_toArray, List.set_cons_succ, List.set_cons_zero])
      refine OpG.list rfl ?_; first | (refine S_1 0 _ _ _ rfl (Try.sizeOf25 _) rfl rfl H rfl ?_ ?_ ?_; (focus (first | (simp [Value.oneCell']; done) | assumption)); (focus (simp; done))) | (refine G_setNi 0 _ _ _ rfl (Try.sizeOf25 _) rfl rfl ?_ H rfl rfl ?_; (focus (first | (simp [Value.oneCell']; done) | assumption))) | (refine S_1 1 _ _ _ rfl (Try.sizeOf25 _) rfl rfl H rfl ?_ ?_ ?_; (focus (first | (simp [Value.oneCell']; done) | assumption)); (focus (simp; done))) | (refine G_setNi 1 _ _ _ rfl (Try.sizeOf25 _) rfl rfl ?_ H rfl rfl ?_; (focus (first | (simp [Value.oneCell']; done) | assumption))) | (refine S_1 2 _ _ _ rfl (Try.sizeOf25 _) rfl rfl H rfl ?_ ?_ ?_; (focus (first | (simp [Value.oneCell']; done) | assumption)); (focus (simp; done))) | (refine G_setNi 2 _ _ _ rfl (Try.sizeOf25 _) rfl rfl ?_ H rfl rfl ?_; (focus (first | (simp [Value.oneCell']; done) | assumption)))
      clear H; intro w1 H; simp only [List.set_cons_succ, List.set_cons_zero] at H
      refine list_end ?_
      refine then_norm ?_
      refine wp_seq ?_
      refine wp_region_lit ?_
      apply seq_op rfl
      · intro Φ hΦ; first | (refine L_1 0 _ _ rfl (Try.isAgg25 _) rfl H rfl rfl ?_; exact hΦ) | (refine L_1 1 _ _ rfl (Try.isAgg25 _) rfl H rfl rfl ?_; exact hΦ) | (refine L_1 2 _ _ rfl (Try.isAgg25 _) rfl H rfl rfl ?_; exact hΦ) | (refine G_pNi 0 _ _ rfl (Try.isAgg25 _) rfl H rfl (Try.sizeOf25 _) ?_; exact hΦ) | (refine G_pNi 1 _ _ rfl (Try.isAgg25 _) rfl H rfl (Try.sizeOf25 _) ?_; exact hΦ) | (refine G_pNi 2 _ _ rfl (Try.isAgg25 _) rfl H rfl (Try.sizeOf25 _) ?_; exact hΦ) | (refine G_s1 _ _ rfl (Try.isAgg25 _) rfl H hC 0 rfl rfl ?_; exact hΦ) | (refine G_s1 _ _ rfl (Try.isAgg25 _) rfl H hC _ rfl rfl ?_; exact hΦ) | (refine G_sN _ _ rfl (Try.isAgg25 _) rfl H hC (Try.sizeOf25 _) ?_; exact hΦ)
      (try simp only [Act.put, List.setIfInBounds_toArray, List.set_cons_succ, List.set_cons_zero])
      refine seq_call rfl (fun Φ hΦ => by go_simp; (try exact hΦ)) (of_spec o _ H) ?_
      clear H; rintro e w1 ⟨rfl, H⟩; refine ⟨_, rfl, ?_⟩
      (try simp only [Act.put, List.setIfInBounds_toArray, List.set_cons_succ, List.set_cons_zero])
      apply seq_op rfl
      · intro Φ hΦ; go_simp; exact hΦ
      (try simp only [Act.put, List.setIfInBounds_toArray, List.set_cons_succ, List.set_cons_zero])
      apply seq_op rfl
      · intro Φ hΦ; go_simp; exact hΦ
      (try simp only [Act.put, List.setIfInBounds_toArray, List.set_cons_succ, List.set_cons_zero])
      apply seq_op rfl
      · intro Φ hΦ; go_simp; exact hΦ
      (try simp only [Act.put, List.setIfInBounds_toArray, List.set_cons_succ, List.set_cons_zero])
      refine OpG.list rfl ?_; refine G_alloc 73 rfl (Try.zeroValue73 _) H ?_; clear H; intro b6 w1 H; (try simp only [Value.cells] at H)
      (try simp only [Act.put, List.setIfInBounds_toArray, List.set_cons_succ, List.set_cons_zero])
      refine OpG.list rfl ?_; first | (refine S_1 0 _ _ _ rfl (Try.sizeOf73 _) rfl rfl H rfl ?_ ?_ ?_; (focus (first | (simp [Value.oneCell']; done) | assumption)); (focus (simp; done))) | (refine G_setNi 0 _ _ _ rfl (Try.sizeOf73 _) rfl rfl ?_ H rfl rfl ?_; (focus (first | (simp [Value.oneCell']; done) | assumption))) | (refine S_1 1 _ _ _ rfl (Try.sizeOf73 _) rfl rfl H rfl ?_ ?_ ?_; (focus (first | (simp [Value.oneCell']; done) | assumption)); (focus (simp; done))) | (refine G_setNi 1 _ _ _ rfl (Try.sizeOf73 _) rfl rfl ?_ H rfl rfl ?_; (focus (first | (simp [Value.oneCell']; done) | assumption))) | (refine S_1 2 _ _ _ rfl (Try.sizeOf73 _) rfl rfl H rfl ?_ ?_ ?_; (focus (first | (simp [Value.oneCell']; done) | assumption)); (focus (simp; done))) | (refine G_setNi 2 _ _ _ rfl (Try.sizeOf73 _) rfl rfl ?_ H rfl rfl ?_; (focus (first | (simp [Value.oneCell']; done) | assumption)))
      clear H; intro w1 H; simp only [List.set_cons_succ, List.set_cons_zero] at H
      apply seq_op rfl
      · intro Φ hΦ; go_simp; exact hΦ
      (try simp only [Act.put, List.setIfInBounds_toArray, List.set_cons_succ, List.set_cons_zero])
      refine list_end ?_
      refine then_norm ?_
      refine wp_seq ?_
      refine wp_plain_obO (k := 5) (sz := 46) (List.replicate 5 5) (fun _ => []) rfl rfl (by kernel_rfl) (by kernel_rfl) H (by simp only [List.take_succ_cons, List.take_zero]; exact rfl)
        (fun y => by simp only [ov, Act.put, List.setIfInBounds_toArray, List.set_cons_succ, List.set_cons_zero, Nat.zero_add, Nat.reduceAdd]; exact rfl) ?_
      apply ObO.valw
      · intro x; rfl
      · intro s' w' y Φ R hs H hG hΦ; skip; refine wantG rfl ?_; (go_simp; exact hΦ _ _ (Sub.refl _) H)
      apply ObO.valw
      · intro x; rfl
      · intro s' w' y Φ R hs H hG hΦ; simp only [List.nil_append, List.cons_append] at hG; have e0 : y 0 = _ := dh_get hG 0 rfl (by kernel_rfl); simp only [e0]; refine wantG rfl ?_; (go_simp; exact hΦ _ _ (Sub.refl _) H)
      apply ObO.valg
      · intro x; rfl
      · intro s' y hG; simp only [List.nil_append, List.cons_append] at hG; have eg : y 1 = _ := dh_get hG 1 rfl (by kernel_rfl); simp only [eg]; first | exact wanted_t rfl rfl rfl | exact wanted_vt rfl rfl rfl
      · intro hc s' w' y Φ R hs H hG hΦ; have HC := Lib.hid hc; clear hc; skip; first | (refine L_1 0 _ _ rfl (Try.isAgg25 _) rfl H rfl rfl ?_; exact hΦ _ _ (Sub.refl _) H) | (refine L_1 1 _ _ rfl (Try.isAgg25 _) rfl H rfl rfl ?_; exact hΦ _ _ (Sub.refl _) H) | (refine L_1 2 _ _ rfl (Try.isAgg25 _) rfl H rfl rfl ?_; exact hΦ _ _ (Sub.refl _) H) | (refine G_pNi 0 _ _ rfl (Try.isAgg25 _) rfl H rfl (Try.sizeOf25 _) ?_; exact hΦ _ _ (Sub.refl _) H) | (refine G_pNi 1 _ _ rfl (Try.isAgg25 _) rfl H rfl (Try.sizeOf25 _) ?_; exact hΦ _ _ (Sub.refl _) H) | (refine G_pNi 2 _ _ rfl (Try.isAgg25 _) rfl H rfl (Try.sizeOf25 _) ?_; exact hΦ _ _ (Sub.refl _) H) | (refine G_s1 _ _ rfl (Try.isAgg25 _) rfl H (hC.mono hs) 0 rfl rfl ?_; exact hΦ _ _ (Sub.refl _) H) | (refine G_s1 _ _ rfl (Try.isAgg25 _) rfl H (hC.mono hs) _ rfl rfl ?_; exact hΦ _ _ (Sub.refl _) H) | (refine G_sN _ _ rfl (Try.isAgg25 _) rfl H (hC.mono hs) (Try.sizeOf25 _) ?_; exact hΦ _ _ (Sub.refl _) H)
      apply ObO.valg
      · intro x; rfl
      · intro s' y hG; simp only [List.nil_append, List.cons_append] at hG; have eg : y 1 = _ := dh_get hG 1 rfl (by kernel_rfl); simp only [eg]; first | exact wanted_t rfl rfl rfl | exact wanted_vt rfl rfl rfl
      · intro hc s' w' y Φ R hs H hG hΦ; simp only [List.nil_append, List.cons_append] at hG; have e2 : y 2 = _ := dh_get hG 2 rfl (by kernel_rfl); (first | rw [vg_of hc] at e2 | rw [vg_of (and_l hc)] at e2 | rw [vg_of (and_l (and_l hc))] at e2 | rw [vg_of (and_l (and_l (and_l hc)))] at e2 | rw [vg_and hc] at e2 | skip); have HC := Lib.hid hc; clear hc; simp only [e2]; (go_simp; refine (writes_any H).mono ?_; rintro e w2 ⟨rfl, H⟩; exact ⟨_, rfl, hΦ _ _ (Sub.refl _) H⟩)
      apply ObO.valw
      · intro x; rfl
      · intro s' w' y Φ R hs H hG hΦ; simp only [List.nil_append, List.cons_append] at hG; have e1 : y 1 = _ := dh_get hG 1 rfl (by kernel_rfl); have e3 : y 3 = _ := dh_get hG 3 rfl (by kernel_rfl); simp only [e1, e3]; refine wantG rfl ?_; (refine G_and _ _ _ rfl rfl rfl rfl ?_; exact hΦ _ _ (Sub.refl _) H)
      clear H
      intro s3 w3 yy hs3 H hG
      replace H := (show Holds _ _ ([] ++ _) _ from H); rw [List.nil_append] at H
      simp only [List.nil_append, List.cons_append] at hG
      have e0 : yy 0 = _ := gh_get hG 0 rfl
      have e1 : yy 1 = _ := gh_get hG 1 rfl
      have e2 : yy 2 = _ := gh_get hG 2 rfl
      have e3 : yy 3 = _ := gh_get hG 3 rfl
      have e4 : yy 4 = _ := gh_get hG 4 rfl
      simp only [e0, e1, e2, e3, e4]
      clear hG e0 e1 e2 e3 e4
      replace H := H.forget hs3
      refine list_end ?_
      refine then_norm ?_
      refine wp_cond_split rfl (fun hc => ?_) (fun hc => ?_)
      · skip
        refine wp_region_lit ?_
        apply seq_op rfl
        · intro Φ hΦ; go_simp; exact hΦ
        (try simp only [Act.put, List.setIfInBounds_toArray, List.set_cons_succ, List.set_cons_zero])
        apply seq_op rfl
        · intro Φ hΦ; first | (refine L_1 0 _ _ rfl (Try.isAgg73 _) rfl H rfl rfl ?_; exact hΦ) | (refine L_1 1 _ _ rfl (Try.isAgg73 _) rfl H rfl rfl ?_; exact hΦ) | (refine L_1 2 _ _ rfl (Try.isAgg73 _) rfl H rfl rfl ?_; exact hΦ) | (refine G_pNi 0 _ _ rfl (Try.isAgg73 _) rfl H rfl (Try.sizeOf73 _) ?_; exact hΦ) | (refine G_pNi 1 _ _ rfl (Try.isAgg73 _) rfl H rfl (Try.sizeOf73 _) ?_; exact hΦ) | (refine G_pNi 2 _ _ rfl (Try.isAgg73 _) rfl H rfl (Try.sizeOf73 _) ?_; exact hΦ) | (refine G_s1 _ _ rfl (Try.isAgg73 _) rfl H hC 0 rfl rfl ?_; exact hΦ) | (refine G_s1 _ _ rfl (Try.isAgg73 _) rfl H hC _ rfl rfl ?_; exact hΦ) | (refine G_sN _ _ rfl (Try.isAgg73 _) rfl H hC (Try.sizeOf73 _) ?_; exact hΦ)
        (try simp only [Act.put, List.setIfInBounds_toArray, List.set_cons_succ, List.set_cons_zero])
        apply seq_op rfl
        · intro Φ hΦ; go_simp; exact hΦ
        (try simp only [Act.put, List.setIfInBounds_toArray, List.set_cons_succ, List.set_cons_zero])
        refine OpG.list rfl ?_; refine G_mapUpdate mk_thing 2 79 _ _ _ rfl Try.underlying79 (k := thingOf o) hok hFA.ok hFA.uniq rfl rfl rfl H rfl ?_
        clear H; intro w1 H; simp only [List.set_cons_succ, List.set_cons_zero] at H
        replace H := H.drop.drop
        refine list_end ?_
        refine block_norm ?_
        refine then_norm ?_
        have hw := i64w (n := (k : Int) + 1) (by omega) (by omega)
        refine wp_region_lit ?_
        apply seq_op rfl
        · intro Φ hΦ; go_simp; exact hΦ
        (try simp only [Act.put, List.setIfInBounds_toArray, List.set_cons_succ, List.set_cons_zero])
        apply seq_op rfl
        · intro Φ hΦ; go_simp; exact hΦ
        (try simp only [Act.put, List.setIfInBounds_toArray, List.set_cons_succ, List.set_cons_zero])
        refine list_end ?_
        refine then_norm ?_
        refine ⟨⟨⟨rfl, rfl, rfl, rfl, rfl, rfl, rfl, rfl, rfl, rfl, rfl, rfl, rfl, rfl, rfl, rfl, rfl, rfl, rfl, rfl, rfl, rfl, rfl, rfl⟩, rfl⟩, ?_, by simp [intOf]; omega⟩
        exact ⟨k + 1, _, by omega, by go_num, by rw [← HR.out, hdr.out]; simp only [finV]; rw [if_pos (by exact hc)], hFA.put hok, H⟩
      · skip
        refine wp_skip ?_
        refine block_norm ?_
        refine then_norm ?_
        have hw := i64w (n := (k : Int) + 1) (by omega) (by omega)
        refine wp_region_lit ?_
        apply seq_op rfl
        · intro Φ hΦ; go_simp; exact hΦ
        (try simp only [Act.put, List.setIfInBounds_toArray, List.set_cons_succ, List.set_cons_zero])
        apply seq_op rfl
        · intro Φ hΦ; go_simp; exact hΦ
        (try simp only [Act.put, List.setIfInBounds_toArray, List.set_cons_succ, List.set_cons_zero])
        refine list_end ?_
        refine then_norm ?_
        refine ⟨⟨⟨rfl, rfl, rfl, rfl, rfl, rfl, rfl, rfl, rfl, rfl, rfl, rfl, rfl, rfl, rfl, rfl, rfl, rfl, rfl, rfl, rfl, rfl, rfl, rfl⟩, rfl⟩, ?_, by simp [intOf]; omega⟩
        exact ⟨k + 1, l, by omega, by go_num, by rw [← HR.out, hdr.out]; simp only [finV]; rw [if_neg (nt (by exact hc))], hFA.more, H.drop.drop⟩
    · skip
      have hfin : k = xs.length := by
        have : ¬ k < xs.length := by simpa using hc
        omega
      subst hfin
      have hys := HR.out
      rw [List.drop_length] at hys
      have hys2 : l = finV 0 xs [] := hys
      clear hys HR
      subst hys2
      refine wp_exit ?_
      refine then_exit ?_
      refine then_exit ?_
      refine block_exit ?_
      refine then_norm ?_
      refine wp_seq ?_
      refine wp_region_lit ?_
      apply seq_op rfl
      · intro Φ hΦ; go_simp; exact hΦ
      (try simp only [Act.put, List.setIfInBounds_toArray, List.set_cons_succ, List.set_cons_zero])
      refine list_end ?_
      refine then_norm ?_
      refine wp_seq ?_
      refine wp_seq ?_
      obtain ⟨es, c, ⟨hes, hwf⟩, H⟩ := mp_open H
      have HES := Lib.hid hes
      clear hes
      have hlen : es.size ≤ xs.length := by
        have := congrArg List.length HES.out
        rw [List.length_map, List.length_map, Array.length_toList] at this
        rw [this]; exact hFA.len
      refine wp_region_lit ?_
      apply seq_op rfl
      · intro Φ hΦ; go_simp; exact hΦ
      (try simp only [Act.put, List.setIfInBounds_toArray, List.set_cons_succ, List.set_cons_zero])
      refine OpG.list rfl ?_; refine G_range 0 79 _ rfl Try.underlying79 rfl H rfl ?_; clear H; intro b34 w1 H
      (try simp only [Act.put, List.setIfInBounds_toArray, List.set_cons_succ, List.set_cons_zero])
      refine list_end ?_
      refine then_norm ?_
      refine wp_block ?_
      replace H := Kin.Osl.nil (d := kI.sh s) H
      refine wp_loopF [none, none, none, none, none, none, none, none, some 8, none, some 10, none, none, none, none, none, none, none, none, none, none, none, none, none, none, none, none, none, none, none, none, none, none, none, none, some 35, some 36, some 37, some 38, some 39, some 40, some 41, some 42, none, none, none] rfl (by simp) (fun f w => ∃ seen : Array Nat, ∃ done : List MapEntry, seen.toList = done.map (·.born) ∧ (∀ e ∈ done, e ∈ es.toList) ∧ (done.map (·.born)).Nodup ∧ Holds E s ((kI.sh s).Osl (f 8) (done.map fun e => intOf e.val) :: pt b34 (.mapIter (some r11) c seen c) :: pt r11 (.map es c) :: L) w) (fun f w => es.size - lenS (f 8)) ?_ ?_
      · skip
        exact ⟨#[], [], rfl, fun e h => (List.not_mem_nil h).elim, List.Pairwise.nil, H⟩
      · intro f w hI
        clear H
        obtain ⟨seen, done, hsn0, hd, hn, H⟩ := hI
        have hsn := hsn0
        clear hsn0
        obtain ⟨A8, c8, hv80, -⟩ := (H.front 0 rfl).len
        have hv8 : lenS (f 8) = done.length := by rw [hv80]; exact List.length_map ..
        clear hv80
        have hle := nodup_le hn (fun x hx => by obtain ⟨e, he, rfl⟩ := List.mem_map.1 hx; exact List.mem_map.2 ⟨e, hd e he, rfl⟩ : ∀ x ∈ done.map (·.born), x ∈ es.toList.map (·.born))
        have hle : done.length ≤ es.size := by simpa using hle
        simp only [ovm, mixM]
        obtain ⟨v8, hv8b⟩ : ∃ v8, f 8 = v8 := ⟨_, rfl⟩
        simp only [hv8b] at H hv8
        simp only [hv8b]
        clear hv8b
        refine wp_seq ?_
        refine wp_region_lit ?_
        refine OpG.list rfl ?_; refine G_nextB 1 2 _ rfl rfl H rfl rfl hwf ?_; clear H; intro b e w1 he1 he0 H; simp only [List.set_cons_succ, List.set_cons_zero] at H
        (try simp only [Act.put, List.setIfInBounds_toArray, List.set_cons_succ, List.set_cons_zero])
        apply seq_op rfl
        · intro Φ hΦ; refine G_extract0 _ rfl rfl ?_; exact hΦ
        (try simp only [Act.put, List.setIfInBounds_toArray, List.set_cons_succ, List.set_cons_zero])
        refine list_end ?_
        refine then_norm ?_
        refine wp_seq ?_
        refine wp_cond_split rfl (fun hc => ?_) (fun hc => ?_)
        · skip
          have hbt : b = true := hc
          subst hbt
          clear hc
          have hem := he1 rfl
          simp only [if_true] at H
          clear he1 he0
          refine wp_skip ?_
          refine then_norm ?_
          refine wp_block ?_
          refine wp_seq ?_
          refine wp_region_lit ?_
          apply seq_op rfl
          · intro Φ hΦ; refine G_entry 1 2 _ rfl rfl H rfl rfl hwf hem.1 ?_; exact hΦ
          (try simp only [Act.put, List.setIfInBounds_toArray, List.set_cons_succ, List.set_cons_zero])
          apply seq_op rfl
          · intro Φ hΦ; go_simp; exact hΦ
          (try simp only [Act.put, List.setIfInBounds_toArray, List.set_cons_succ, List.set_cons_zero])
          apply seq_op rfl
          · intro Φ hΦ; go_simp; exact hΦ
          (try simp only [Act.put, List.setIfInBounds_toArray, List.set_cons_succ, List.set_cons_zero])
          refine list_end ?_
          obtain ⟨z, hz, hez⟩ := ent_val HES.out hem.1 hFA.val
          simp only [hez]
          have hd2 : ∀ x ∈ done ++ [e], x ∈ es.toList := fun x hx => (List.mem_append.1 hx).elim (hd x) (fun h => by rw [List.mem_singleton.1 h]; exact hem.1)
          have hn2 : ((done ++ [e]).map (·.born)).Nodup := by
            rw [List.map_append, List.nodup_append]
            refine ⟨hn, by simp, fun x hx y hy exy => ?_⟩
            have : y = e.born := by simpa using hy
            subst this; subst exy
            exact hem.2 (by rw [hsn]; exact hx)
          have hle2 := nodup_le hn2 (fun x hx => by obtain ⟨e, he, rfl⟩ := List.mem_map.1 hx; exact List.mem_map.2 ⟨e, hd2 e he, rfl⟩ : ∀ x ∈ (done ++ [e]).map (·.born), x ∈ es.toList.map (·.born))
          have hle2 : (done ++ [e]).length ≤ es.size := by simpa using hle2
          rw [List.length_append, List.length_singleton] at hle2
          refine then_norm ?_
          have hroom : ((done.map fun e => intOf e.val).length + 1) * kI.by_ ≤ 140737488355328 := by
            rw [List.length_map]
            show (done.length + 1) * 8 ≤ _
            omega
          refine wp_region_lit ?_
          apply seq_op rfl
          · intro Φ hΦ; go_simp; exact hΦ
          (try simp only [Act.put, List.setIfInBounds_toArray, List.set_cons_succ, List.set_cons_zero])
          apply seq_op rfl
          · intro Φ hΦ; go_simp; exact hΦ
          (try simp only [Act.put, List.setIfInBounds_toArray, List.set_cons_succ, List.set_cons_zero])
          refine OpG.list rfl ?_; refine SL_1 rfl rfl Try.underlying23 Try.sizeOf3 Try.zeroValue3 rfl rfl (by decide) (by decide) H ?_; clear H; intro b41 w1 H; (try simp only [Value.cells] at H)
          (try simp only [Act.put, List.setIfInBounds_toArray, List.set_cons_succ, List.set_cons_zero])
          refine OpG.list rfl ?_; refine AP_1 0 kI_at _ _ rfl (show kI.K s (intOf e.val) [.int .i64 z] from ⟨by rw [hez]; rfl, by rw [hez]; constructor <;> simp only [intOf] <;> omega⟩) H rfl rfl rfl hroom ?_; clear H; intro v42 w1 H; (try simp only [List.set_cons_succ, List.set_cons_zero] at H)
          (try simp only [Act.put, List.setIfInBounds_toArray, List.set_cons_succ, List.set_cons_zero])
          apply seq_op rfl
          · intro Φ hΦ; go_simp; exact hΦ
          (try simp only [Act.put, List.setIfInBounds_toArray, List.set_cons_succ, List.set_cons_zero])
          refine list_end ?_
          refine block_norm ?_
          refine then_norm ?_
          have hlen42 := (H.front 0 rfl).len
          obtain ⟨A42, c42, hv42, -⟩ := hlen42
          refine ⟨⟨⟨rfl, rfl, rfl, rfl, rfl, rfl, rfl, rfl, rfl, rfl, rfl, rfl, rfl, rfl, rfl, rfl, rfl, rfl, rfl, rfl, rfl, rfl, rfl, rfl, rfl, rfl, rfl, rfl, rfl, rfl, rfl, rfl, rfl, rfl, rfl, rfl, rfl⟩, rfl⟩, ?_, ?_⟩
          · exact ⟨seen.push e.born, done ++ [e], by rw [Array.toList_push, hsn, List.map_append]; rfl, hd2, hn2, by rw [List.map_append]; exact H⟩
          · rw [hv42]
            show es.size - ((done.map fun e => intOf e.val) ++ [intOf e.val]).length < es.size - lenS v8
            rw [hv8, List.length_append, List.length_map, List.length_singleton]
            omega
        · skip
          have hbf : b = false := hc
          subst hbf
          clear hc
          have hall := he0 rfl
          simp only [Bool.false_eq_true, if_false] at H
          clear he1 he0
          have hpm := (met_perm hwf hd hn (fun e he => by rw [← hsn]; exact hall e he)).map (fun e => intOf e.val)
          rw [ents_vals HES.out] at hpm
          have HP := Lib.hid hpm
          clear hpm
          refine wp_exit ?_
          refine then_exit ?_
          refine then_exit ?_
          refine block_exit ?_
          refine then_norm ?_
          refine wp_seq ?_
          refine wp_region_lit ?_
          apply seq_op rfl
          · intro Φ hΦ; go_simp; exact hΦ
          (try simp only [Act.put, List.setIfInBounds_toArray, List.set_cons_succ, List.set_cons_zero])
          refine seq_call rfl (fun Φ hΦ => by go_simp; (try exact hΦ)) (sortI H) ?_
          clear H; rintro e w1 ⟨rfl, H⟩; refine ⟨_, rfl, ?_⟩
          (try simp only [Act.put, List.setIfInBounds_toArray, List.set_cons_succ, List.set_cons_zero])
          refine list_end ?_
          obtain ⟨s2, hs1, H, hrd0⟩ := Kin.Osl.fr H
          have hrd := hrd0.unsh hs1
          clear hrd0
          refine then_norm ?_
          refine wp_seq ?_
          refine wp_region_lit ?_
          apply seq_op rfl
          · intro Φ hΦ; go_simp; exact hΦ
          (try simp only [Act.put, List.setIfInBounds_toArray, List.set_cons_succ, List.set_cons_zero])
          apply seq_op rfl
          · intro Φ hΦ; go_simp; exact hΦ
          (try simp only [Act.put, List.setIfInBounds_toArray, List.set_cons_succ, List.set_cons_zero])
          refine list_end ?_
          refine then_norm ?_
          refine wp_ret ?_
          exact ret1 rfl (rv_tmp rfl) rfl ⟨_, s2, _, rfl, hs1, sortZ_fin HP.out, hrd, H.drop.drop⟩
end Go.Proofs.Yticpadjheelipaa
