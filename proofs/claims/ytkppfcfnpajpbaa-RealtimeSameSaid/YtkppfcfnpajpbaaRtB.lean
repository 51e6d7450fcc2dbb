/- Before, walked. -/
import Derived.Test.YtkppfcfnpajpbaaRt
namespace Go.Proofs.Ytkppfcfnpajpbaa
open Go.RowKit
set_option linter.all false
section
variable {E : World} {s : SH} {L : List HP} {w : World} (p st f t p' st' f' t' : Int) (v v' : Value)
set_option maxHeartbeats 1000000 in
theorem containsRule_spec (H : Holds E s L w) {b1 b2 i1 i2 g i0 : Nat} (h0 : L[i0]? = some (pt g (.cells ruleCells.toArray 48 (0, 0)))) (h1 : L[i1]? = some (pt b1 (.cells (tcells p st f t v).toArray 26 (0, 0))))
    (h2 : L[i2]? = some (pt b2 (.cells (tcells p' st' f' t' v').toArray 26 (0, 0)))) :
    Calls Try.prog 23 #[.slice (some ⟨g, 0, none⟩) 3 3, .func (.func 25) #[] #[.pointer (some ⟨b1, 0, none⟩), .pointer (some ⟨b2, 0, none⟩)]] w
      fun e w' => e = .returned (.bool (!(bef st t st' f'))) ∧ Holds E s L w' := by
  go_enter Try.func23, Try.ntmps23
  go_wp2_with (go_at_call 32; refine (indexRule_spec p st f t p' st' f' t' v v' H h0 h1 h2).mono ?_; clear H; rintro e w1 ⟨r, rfl, hr, H⟩)
  go_ret
  exact ⟨rfl, H⟩
set_option maxHeartbeats 1000000 in
theorem before_spec (H : Holds E s L w) :
    Calls Try.prog 10 #[tv p st f t v, tv p' st' f' t' v'] w fun e w' => e = .returned (.bool (bef st t st' f')) ∧ Holds E s L w' := by
  have hb : (!(!(bef st t st' f'))) = bef st t st' f' := Bool.not_not _
  unfold tv
  go_enter Try.func10, Try.ntmps10
  go_wp2_with (first
    | ((with_reducible refine OpG.list rfl ?_); first
      | (refine G_box 26 _ rfl (v := Value.agg #[.int .i64 p, .int .i64 st, .int .i64 f, .int .i64 t, v]) rfl H ?_; clear H; intro b1 w1 H; simp only [Value.cells] at H; have tok := True.intro)
      | (refine G_box 26 _ rfl (v := Value.agg #[.int .i64 p', .int .i64 st', .int .i64 f', .int .i64 t', v']) rfl H ?_; clear H; intro b2 w1 H; simp only [Value.cells] at H))
    | (go_at_call 24; refine (rules_spec H).mono ?_; clear H; rintro e w1 ⟨g, rfl, H⟩)
    | (go_at_call 23; refine (containsRule_spec p st f t p' st' f' t' v v' (i0 := 0) (i1 := 2) (i2 := 1) H rfl rfl rfl).mono ?_; clear H; rintro e w1 ⟨rfl, H⟩))
  go_ret
  exact ⟨rfl, H.drop.drop.drop⟩
end
end Go.Proofs.Ytkppfcfnpajpbaa
