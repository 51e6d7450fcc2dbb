/- RealtimeSame, walked. -/
import Derived.Test.YtkppfcfnpajpbaaReach
import Derived.Test.YtkppfcfnpajpbaaSameB
import Derived.Test.YtkppfcfnpajpbaaSmallS
import Derived.Test.YtkppfcfnpajpbaaApartP
namespace Go.Proofs.Ytkppfcfnpajpbaa
open Go.RowKit
set_option linter.all false

theorem pairs_in {p : Nat → Nat → Bool} {n : Nat} : ∀ x ∈ prsTo p n n, ∃ a b, a < n ∧ b < n ∧ p a b = true ∧ x = ((a : Int), (b : Int)) := fun _ h => mem_prsTo h
set_option maxHeartbeats 8000000 in
theorem rsame_spec {E : World} {s : SH} {L : List HP} {w : World} {v : Value} {ys : List Txn} (H : Holds E s L w) (hv : kT.Sl s v ys) :
    Calls Try.prog 7 #[v] w fun e w' => e = .returned (.bool true) ∧ ∃ s', Sub s s' ∧ Holds E s' L w' := by
  go_enter Try.func7, Try.ntmps7
  go_wp2_with (first
    | (go_at_call 8; refine (small_s H hv).mono ?_; rintro e w1 ⟨v1, s1, rfl, hs1, H1, hv1⟩; clear H)
    | (go_at_call 9; refine (right_spec H1 hv1).mono ?_; rintro e w2 ⟨v2, s2, xs, rfl, hs2, H2, hv2, hok, hl25⟩; clear H1; obtain ⟨A2, cap2, e2, -, -, -⟩ := id hv2; subst e2; have HOK := Lib.hid hok; clear hok)
    | (go_at_call 11; refine (full_spec H2 hv2 (by omega)).mono ?_; rintro e w3 ⟨v3, s3, rfl, hs3, H3⟩; clear H2; obtain ⟨s4, hs4, H4, hv4⟩ := Kin.Osl.fr H3; clear H3; obtain ⟨A4, cap4, e4, -, -, -⟩ := id hv4; subst e4)
    | (go_at_call 12; refine (sparse_ok H4 (hv2.mono (hs3.trans hs4)) (by omega)).mono ?_; rintro e w5 ⟨v5, s5, rfl, hs5, H5⟩; clear H4; obtain ⟨s6, hs6, H6, hv6⟩ := Kin.Osl.fr H5; clear H5; obtain ⟨A6, cap6, e6, -, -, -⟩ := id hv6; subst e6; have hv7 := hv4.mono (hs5.trans hs6); have hle := sparse_le xs; have hR1 := fun (w : World) (H : Holds E s6 L w) => reach_spec (S := bfr xs) (T := bfr xs) (by omega) H hv7 pairs_in (fun a b ha hb h => prsTo_mem ha hb h) (fun _ _ _ _ h => h) (okay_trn HOK.out) (fun a b _ _ h => Pth.base h) (by have := full_len xs; have : xs.length * xs.length ≤ 25 * 25 := Nat.mul_le_mul hl25 hl25; omega); have hR2 := fun (s7 : SH) (w : World) (hs : Sub s6 s7) (H : Holds E s7 L w) => reach_spec (S := spM xs) (T := bfr xs) (by omega) H (hv6.mono hs) pairs_in (fun a b ha hb h => prsTo_mem ha hb h) (fun a b _ _ h => (Bool.and_eq_true_iff.1 h).1) (okay_trn HOK.out) (fun a b ha hb h => sparse_path HOK.out _ a b ha hb (Nat.le_refl _) h) (by have := sparse_len xs; have : xs.length * xs.length ≤ 25 * 25 := Nat.mul_le_mul hl25 hl25; omega); have HR1 := Lib.hid hR1; have HR2 := Lib.hid hR2; clear hR1 hR2)
    | (go_at_call 20; first
      | (refine (HR1.out _ H6).mono ?_; rintro e w8 ⟨v8, s8, rfl, hs8, H8, hv8⟩; clear H6)
      | (refine (HR2.out _ _ hs8 H8).mono ?_; rintro e w9 ⟨v9, s9, rfl, hs9, H9, hv9⟩; clear H8))
    | (go_at_call 19; refine (eqMat (hv8.mono hs9) hv9 H9).mono ?_; rintro e w10 ⟨rfl, H10⟩; clear H9)
    | (go_at_call 13; refine (refFull_spec H10 (hv2.mono (hs3.trans (hs4.trans (hs5.trans (hs6.trans (hs8.trans hs9)))))) (by omega)).mono ?_; rintro e w11 ⟨v11, rfl, H11⟩; clear H10; obtain ⟨A11, cap11, e11, -, -, -⟩ := H11.len; subst e11))
  go_ret
  exact ⟨rfl, s9, hs1.trans (hs2.trans (hs3.trans (hs4.trans (hs5.trans (hs6.trans (hs8.trans hs9)))))), H11.drop⟩
end Go.Proofs.Ytkppfcfnpajpbaa
