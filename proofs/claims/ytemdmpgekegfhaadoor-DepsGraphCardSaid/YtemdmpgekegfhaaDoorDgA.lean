/- A graph's labels. -/
import Derived.Test.YtemdmpgekegfhaaDoorOx1
namespace Go.Proofs.YtemdmpgekegfhaaDoor
open Go.RowKit
set_option linter.all false
set_option maxRecDepth 10000

theorem mod_succ (m k : Nat) : m % 2 ^ (k + 1) = if m.testBit k = true then m % 2 ^ k ||| 2 ^ k else m % 2 ^ k := by
  apply Nat.eq_of_testBit_eq; intro j
  rw [Nat.testBit_mod_two_pow]
  by_cases hb : m.testBit k = true
  · rw [if_pos hb, Nat.testBit_or, Nat.testBit_mod_two_pow, Nat.testBit_two_pow]
    by_cases e : k = j
    · subst e; simp [hb]
    · have : decide (j < k + 1) = decide (j < k) := by
        by_cases h : j < k
        · simp [h]; omega
        · simp [h]; omega
      rw [this]; simp [e]
  · rw [if_neg hb, Nat.testBit_mod_two_pow]
    by_cases e : k = j
    · subst e; simp [hb]
    · have : decide (j < k + 1) = decide (j < k) := by
        by_cases h : j < k
        · simp [h]; omega
        · simp [h]; omega
      rw [this]
set_option maxHeartbeats 2000000 in
theorem glabels_c {E : World} {s : SH} {L : List HP} {w : World} {a n u v : Nat} {F : Nat → Nat} {M : Nat → Nat → Nat} (hn : n ≤ 300) (hu : u < n) (hv : v < n) (H : Holds E s L w) (hG : Gr s a n F) (hR : Rel n F M) :
    Calls Tryd.prog 67 #[.pointer (some ⟨a, 0, none⟩), .int .i64 u, .int .i64 v] w fun e w' => e = .returned (.int .i64 (M u v : Nat)) ∧ Holds E s L w' := by
  obtain ⟨W, ⟨R0, R1, R2, R3, hg, hr⟩, hw⟩ := hG
  have c0 := gr_c H hg 0
  simp only [List.getElem?_toArray, List.getElem?_cons_zero, List.getElem?_cons_succ] at c0
  have hhas := has_c c0 (u : Int)
  rw [show (decide ((0 : Int) ≤ (u : Int)) && decide ((u : Int) < (n : Int))) = true by simp; omega] at hhas
  have hm : M u v < 16 := hR.lab u v
  have hbit := fun i hi => hR.bit i u v hi hu hv
  have HB := Lib.hid hbit
  clear hbit hR
  have H0 : RowKit.Hid (M u v < 16) := Lib.hid hm
  generalize M u v = m at HB H0 hm ⊢
  clear hm
  go_enter Tryd.func67, Tryd.ntmps67
  go_wp2_with (go_at_call 109; refine hhas.mono ?_; rintro e w' ⟨rfl, rfl⟩)
  have HR := Lib.hid hr
  have HW := Lib.hid hw
  clear hr hw c0 hhas
  go_loopw [17, 7] (fun i q wr => ∃ k : Nat, k ≤ 4 ∧ i = .int .i64 k ∧ q = .int .i64 (m % 2 ^ k : Nat) ∧ Holds E s L wr) (fun i _ _ => 4 - (intOf i).toNat)
  case atStart => exact ⟨0, Nat.zero_le _, rfl, by simp [Nat.mod_one], H⟩
  case round =>
    clear H
    obtain ⟨k, hk, rfl, rfl, H2⟩ := hrel
    by_cases hlt : k < 4
    · obtain ⟨A, c, hA, hj⟩ := HR.out k hlt
      obtain ⟨blk, off, p2, rfl, hC, hS⟩ := hj u hu
      have hkn : k * n ≤ 3 * n := Nat.mul_le_mul_right n (by omega)
      have hWd := HW.out (k * n + u) (by omega)
      have cR := (gr_c H2 hg (1 + k)).trans (gr_row hlt hA)
      have cE : wr.cell? ⟨blk, off + u, none⟩ = some (.pointer (some ⟨p2, 0, none⟩)) := by
        have := Cells.cell H2 hC 0 _ rfl
        simpa [Addr.add] using this
      have hbk := HB.out k hlt
      have hms := mod_succ m k
      have hhs := bhas_c hv hn H2 hS hWd
      rw [hbk] at hhs
      have hwk : wrap64 ((k : Int) + 1) = (k : Int) + 1 := by unfold wrap64; omega
      have hml : m % 2 ^ k < 16 := Nat.lt_of_le_of_lt (Nat.mod_le _ _) H0.out
      have hpl : 2 ^ k < 16 := by
        have : 2 ^ k < 2 ^ 4 := Nat.pow_lt_pow_right (by decide) hlt
        simpa using this
      have eo := or_i64 (m % 2 ^ k) (2 ^ k) hml hpl
      clear hj hA hkn hbk
      cases hb : m.testBit k with
      | true =>
        rw [hb] at hhs
        rw [if_pos hb] at hms
        rw [← hms] at eo
        have hsh : ((1 : Int) * 2 ^ min k 64) = ((2 ^ k : Nat) : Int) := by rw [Nat.min_eq_left (by omega)]; simp
        have e2 : wrap64 ((2 : Int) ^ k) = ((2 ^ k : Nat) : Int) := by
          have : ((2 : Int) ^ k) = ((2 ^ k : Nat) : Int) := by simp
          rw [this]; unfold wrap64; omega
        have EO := Lib.hid eo
        have E2 := Lib.hid e2
        clear hms eo e2 hsh
        have hmin : min k 64 = k := by omega
        generalize m % 2 ^ k = x at EO hml
        go_wp2_with (go_at_call 115; refine hhs.mono ?_; clear H2 cR cE hhs; rintro e w' ⟨rfl, H3⟩)
        refine ⟨⟨k + 1, by omega, rfl, by rw [E2.out, EO.out], H3⟩, ?_⟩
        simp only [intOf]; omega
      | false =>
        rw [hb] at hhs
        rw [if_neg (by rw [hb]; decide)] at hms
        have HMS := Lib.hid hms
        clear hms eo
        generalize m % 2 ^ k = x at HMS hml
        go_wp2_with (go_at_call 115; refine hhs.mono ?_; clear H2 cR cE hhs; rintro e w' ⟨rfl, H3⟩)
        refine ⟨⟨k + 1, by omega, rfl, by rw [HMS.out], H3⟩, ?_⟩
        simp only [intOf]; omega
    · have hk4 : k = 4 := by omega
      have hm4 : m % 2 ^ k = m := by rw [hk4]; exact Nat.mod_eq_of_lt H0.out
      rw [hm4]
      subst hk4
      go_wp2
      go_ret
      exact ⟨rfl, H2⟩
end Go.Proofs.YtemdmpgekegfhaaDoor
