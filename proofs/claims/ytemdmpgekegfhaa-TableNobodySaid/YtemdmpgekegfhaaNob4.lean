/- TableNobody: the law's walk. -/
import Derived.Test.YtemdmpgekegfhaaNobK
namespace Go.Proofs.Ytemdmpgekegfhaa
open Go.RowKit
set_option linter.all false
set_option maxRecDepth 10000
abbrev QL (b : Nat) (l : Nat) : List HP := [pt l (.cells #[.pointer none, .pointer (some ⟨b, 0, none⟩)] 24 (0, 0)), pt b (.cells #[.slice none 0 0, .map none, .map none, .bool false] 98 (0, 0))]
theorem q_zt {E : World} {s : SH} {w : World} {b l : Nat} {v : Value} (H : Holds E s (QL b l) w) (h : v = .pointer none ∨ v = .pointer (some ⟨b, 0, none⟩)) : Zt w v := by
  rcases h with rfl | rfl
  · exact .inl rfl
  · exact .inr ⟨b, rfl, (H.drop).at_pt⟩
theorem q_c0 {E : World} {s : SH} {w : World} {b l : Nat} (H : Holds E s (QL b l) w) : w.cell? ⟨l, 0, none⟩ = some (.pointer none) := by
  have := H.at_pt
  simp [World.cell?, this]
theorem q_c1 {E : World} {s : SH} {w : World} {b l : Nat} (H : Holds E s (QL b l) w) : w.cell? ⟨l, 1, none⟩ = some (.pointer (some ⟨b, 0, none⟩)) := by
  have := H.at_pt
  simp [World.cell?, this]
theorem final_b {w : World} {v : Value} (h : Zt w v) (n : Int) : Calls Try.prog 23 #[v, .agg #[.int .i64 n, .int .i64 0]] w fun e w' => e = .returned (.bool false) ∧ Below w.heap.size w w' :=
  (final_z h n).mono fun e w' ⟨he, hw⟩ => by subst hw; exact ⟨he, (((Below.refl _ w).alloc (Nat.le_refl _) _).alloc (by simp) _).alloc (by simp; omega) _⟩
theorem txn_b {w : World} {v : Value} (h : Zt w v) (n : Int) : Calls Try.prog 58 #[v, .int .i64 n] w fun e w' => e = .returned (.agg #[.int .i64 0, .int .i64 0, .int .i64 0, .int .i64 0, .slice none 0 0]) ∧ Below w.heap.size w w' :=
  (txn_z h n).mono fun e w' ⟨he, hw⟩ => by subst hw; exact ⟨he, (Below.refl _ w).alloc (Nat.le_refl _) _⟩
theorem newU_b {E : World} {s : SH} {L : List HP} {w : World} (H : Holds E s L w) : ∀ b, b = w.heap.size + 1 + 1 → Calls Try.prog 17 #[.pointer (some ⟨b, 0, none⟩)] (((w.alloc (.map #[] 0)).alloc (.map #[] 0)).alloc (.cells #[.slice none 0 0, .map (some w.heap.size), .map (some (w.heap.size + 1)), .bool true] 98)) fun e w' => e = .returned (.bool true) ∧ Holds E s L w' := by
  rintro b rfl
  have e3 : ∀ k, (((w.alloc (.map #[] 0)).alloc (.map #[] 0)).alloc (.cells #[.slice none 0 0, .map (some w.heap.size), .map (some (w.heap.size + 1)), .bool true] 98)).cell? ⟨w.heap.size + 1 + 1, k, none⟩ = (#[.slice none 0 0, .map (some w.heap.size), .map (some (w.heap.size + 1)), .bool true] : Array Value)[k]? := fun k => by
    have h0 : (((w.alloc (.map #[] 0)).alloc (.map #[] 0)).alloc (.cells #[.slice none 0 0, .map (some w.heap.size), .map (some (w.heap.size + 1)), .bool true] 98)).heap[w.heap.size + 1 + 1]? = some (.cells #[.slice none 0 0, .map (some w.heap.size), .map (some (w.heap.size + 1)), .bool true] 98 (0, 0)) := by
      have := heap_alloc_new ((w.alloc (.map #[] 0)).alloc (.map #[] 0)) (.cells #[.slice none 0 0, .map (some w.heap.size), .map (some (w.heap.size + 1)), .bool true] 98)
      rwa [show ((w.alloc (.map #[] 0)).alloc (.map #[] 0)).heap.size = w.heap.size + 1 + 1 by simp] at this
    simp only [World.cell?, h0]; rfl
  refine (unique_n (r := w.heap.size + 1) (e3 2) (e3 3) ?_).mono fun e w' ⟨he, hB⟩ => ⟨he, ((((H.alloc _).drop.alloc _).drop.alloc _).drop).below hB⟩
  have := heap_alloc_new (w.alloc (.map #[] 0)) (.map #[] 0)
  rw [show (w.alloc (.map #[] 0)).heap.size = w.heap.size + 1 by simp] at this
  exact (heap_alloc_old _ _ (by simp)).trans this
set_option maxHeartbeats 2000000 in
theorem nobody_w (w : World) (key : ByteArray) (n : Int) : Calls Try.prog 14 #[.string key, .int .i64 n] w fun e w' => e = .returned (.bool true) ∧ Below w.heap.size w w' := by
  have H := (((Holds.start w).alloc (.cells #[.slice none 0 0, .map none, .map none, .bool false] 98)).alloc (.cells #[.pointer none, .pointer (some ⟨w.heap.size, 0, none⟩)] 24))
  have hs : (w.alloc (.cells #[.slice none 0 0, .map none, .map none, .bool false] 98)).heap.size = w.heap.size + 1 := by simp
  rw [hs] at H
  have cL0 := q_c0 H
  have cL1 := q_c1 H
  go_enter Try.func14, Try.ntmps14
  go_wp2
  generalize ((w.alloc (.cells #[.slice none 0 0, .map none, .map none, .bool false] 98)).alloc (.cells #[.pointer none, .pointer (some ⟨w.heap.size, 0, none⟩)] 24)) = W at H cL0 cL1 ⊢
  refine wp_loop_rounds 3 ?_
  rw [rounds_succ]
  go_wp2_with (first
    | (go_at_call 55; refine (keys_z (q_zt H (.inl rfl))).mono ?_; rintro e w' ⟨rfl, hB⟩; replace H := H.below hB; clear hB cL0 cL1; have cL0 := q_c0 H; have cL1 := q_c1 H)
    | (go_at_call 56; refine (kind_z (q_zt H (.inl rfl)) _).mono ?_; rintro e w' ⟨rfl, rfl⟩)
    | (go_at_call 29; refine (writers_z (q_zt H (.inl rfl)) _ _).mono ?_; rintro e w' ⟨rfl, rfl⟩)
    | (go_at_call 22; refine (count_z (q_zt H (.inl rfl))).mono ?_; rintro e w' ⟨rfl, rfl⟩)
    | (go_at_call 23; refine (final_b (q_zt H (.inl rfl)) _).mono ?_; rintro e w' ⟨rfl, hB⟩; replace H := H.below hB; clear hB cL0 cL1; have cL0 := q_c0 H; have cL1 := q_c1 H)
    | (go_at_call 17; refine (unique_z (q_zt H (.inl rfl))).mono ?_; rintro e w' ⟨rfl, rfl⟩)
    | (go_at_call 58; refine (txn_b (q_zt H (.inl rfl)) _).mono ?_; rintro e w' ⟨rfl, hB⟩; replace H := H.below hB; clear hB cL0 cL1; have cL0 := q_c0 H; have cL1 := q_c1 H)
    | (go_at_call 57; refine (sameTxn_z _).mono ?_; rintro e w' ⟨rfl, hB⟩; replace H := H.below hB; clear hB cL0 cL1; have cL0 := q_c0 H; have cL1 := q_c1 H))
  rw [rounds_succ]
  go_wp2_with (first
    | (go_at_call 55; refine (keys_z (q_zt H (.inr rfl))).mono ?_; rintro e w' ⟨rfl, hB⟩; replace H := H.below hB; clear hB cL0 cL1; have cL0 := q_c0 H; have cL1 := q_c1 H)
    | (go_at_call 56; refine (kind_z (q_zt H (.inr rfl)) _).mono ?_; rintro e w' ⟨rfl, rfl⟩)
    | (go_at_call 29; refine (writers_z (q_zt H (.inr rfl)) _ _).mono ?_; rintro e w' ⟨rfl, rfl⟩)
    | (go_at_call 22; refine (count_z (q_zt H (.inr rfl))).mono ?_; rintro e w' ⟨rfl, rfl⟩)
    | (go_at_call 23; refine (final_b (q_zt H (.inr rfl)) _).mono ?_; rintro e w' ⟨rfl, hB⟩; replace H := H.below hB; clear hB cL0 cL1; have cL0 := q_c0 H; have cL1 := q_c1 H)
    | (go_at_call 17; refine (unique_z (q_zt H (.inr rfl))).mono ?_; rintro e w' ⟨rfl, rfl⟩)
    | (go_at_call 58; refine (txn_b (q_zt H (.inr rfl)) _).mono ?_; rintro e w' ⟨rfl, hB⟩; replace H := H.below hB; clear hB cL0 cL1; have cL0 := q_c0 H; have cL1 := q_c1 H)
    | (go_at_call 57; refine (sameTxn_z _).mono ?_; rintro e w' ⟨rfl, hB⟩; replace H := H.below hB; clear hB cL0 cL1; have cL0 := q_c0 H; have cL1 := q_c1 H))
  rw [rounds_succ]
  go_wp2_with (first
    | (go_at_call 16; refine (new_z _).mono ?_; rintro e w' ⟨rfl, rfl⟩)
    | (go_at_call 17; refine (newU_b H _ rfl).mono ?_; rintro e w' ⟨rfl, H⟩))
  go_ret
  exact ⟨rfl, Holds.toBelow (Sub.refl _) (by assumption)⟩
end Go.Proofs.Ytemdmpgekegfhaa
