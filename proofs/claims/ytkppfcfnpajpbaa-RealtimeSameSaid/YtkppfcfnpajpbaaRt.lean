/- Before: whether a transaction ended ahead of another one's beginning. -/
import Derived.Test.YtkppfcfnpajpbaaSmall
namespace Go.Proofs.Ytkppfcfnpajpbaa
open Go.RowKit
set_option linter.all false

theorem Holds.alloc' {E : World} {s : SH} {L : List HP} {w : World} (H : Holds E s L w) (o : Obj) : Holds E s L (w.alloc o) := (H.alloc o).drop

def bef (st t st' f' : Int) : Bool := decide (st = 1) && decide (st' = 1) && decide (0 ≤ t) && decide (t < f')
def before (a b : Txn) : Bool := bef a.state a.to b.state b.from_

def tv (p st f t : Int) (v : Value) : Value := .agg #[.int .i64 p, .int .i64 st, .int .i64 f, .int .i64 t, v]

section
variable {E : World} {s : SH} {L : List HP} {w : World} (p st f t p' st' f' t' : Int) (v v' : Value)

set_option maxHeartbeats 400000 in
theorem rule1_spec (H : Holds E s L w) : Calls Try.prog 33 #[tv p st f t v, tv p' st' f' t' v'] w fun e w' => e = .returned (.bool (decide (st = 1) && decide (st' = 1))) ∧ Holds E s L w' := by
  unfold tv
  by_cases h1 : st = 1
  · subst h1
    by_cases h2 : st' = 1
    · subst h2
      go_enter Try.func33, Try.ntmps33
      go_wp2
      go_ret
      exact ⟨rfl, (H.alloc' _).alloc' _⟩
    · have h3 : (st' == 1) = false := by simpa using h2
      have h4 : decide (st' = 1) = false := by simpa using h2
      clear h2
      go_enter Try.func33, Try.ntmps33
      go_wp2
      go_ret
      exact ⟨by rw [h4]; rfl, (H.alloc' _).alloc' _⟩
  · have h3 : (st == 1) = false := by simpa using h1
    have h4 : decide (st = 1) = false := by simpa using h1
    clear h1
    go_enter Try.func33, Try.ntmps33
    go_wp2
    go_ret
    exact ⟨by rw [h4]; rfl, (H.alloc' _).alloc' _⟩
set_option maxHeartbeats 400000 in
theorem rule2_spec (H : Holds E s L w) : Calls Try.prog 34 #[tv p st f t v, tv p' st' f' t' v'] w fun e w' => e = .returned (.bool (decide (0 ≤ t))) ∧ Holds E s L w' := by
  unfold tv
  go_enter Try.func34, Try.ntmps34
  go_wp2
  go_ret
  exact ⟨rfl, (H.alloc' _).alloc' _⟩
set_option maxHeartbeats 400000 in
theorem rule3_spec (H : Holds E s L w) : Calls Try.prog 35 #[tv p st f t v, tv p' st' f' t' v'] w fun e w' => e = .returned (.bool (decide (t < f'))) ∧ Holds E s L w' := by
  unfold tv
  go_enter Try.func35, Try.ntmps35
  go_wp2
  go_ret
  exact ⟨rfl, (H.alloc' _).alloc' _⟩
end
/-- The cells of the rules' list. -/
def ruleCells : List Value := [.string ⟨#[98, 111, 116, 104, 32, 100, 111, 110, 101]⟩, .func (.func 33) #[] #[],
  .string ⟨#[111, 110, 101, 32, 101, 110, 100, 101, 100]⟩, .func (.func 34) #[] #[],
  .string ⟨#[97, 104, 101, 97, 100, 32, 111, 102, 32, 116, 104, 101, 32, 111, 116, 104, 101, 114, 39, 115, 32, 98, 101, 103, 105, 110, 110, 105, 110, 103]⟩, .func (.func 35) #[] #[]]
set_option maxHeartbeats 400000 in
theorem rules_spec {E : World} {s : SH} {L : List HP} {w : World} (H : Holds E s L w) : Calls Try.prog 24 #[] w fun e w' => ∃ g, e = .returned (.slice (some ⟨g, 0, none⟩) 3 3) ∧ Holds E s (pt g (.cells ruleCells.toArray 48 (0, 0)) :: L) w' := by
  go_enter Try.func24, Try.ntmps24
  go_wp2
  go_ret
  exact ⟨_, rfl, H.alloc _⟩

def tcells (p st f t : Int) (v : Value) : List Value := [.int .i64 p, .int .i64 st, .int .i64 f, .int .i64 t, v]
theorem tv_eq (p st f t : Int) (v : Value) : tv p st f t v = .agg (tcells p st f t v).toArray := rfl
section
variable {E : World} {s : SH} {L : List HP} {w : World} (p st f t p' st' f' t' : Int) (v v' : Value)
set_option maxHeartbeats 400000 in
theorem not1_spec (H : Holds E s L w) (nm : ByteArray) (g : Nat) (r : Bool) (hen : ∀ args w, (callFunc g args).run Try.prog w = .ok (.enter g args) w) {b1 b2 i1 i2 : Nat} (h1 : L[i1]? = some (pt b1 (.cells (tcells p st f t v).toArray 26 (0, 0))))
    (h2 : L[i2]? = some (pt b2 (.cells (tcells p' st' f' t' v').toArray 26 (0, 0))))
    (hg : ∀ (L : List HP) (w : World), Holds E s L w → Calls Try.prog g #[tv p st f t v, tv p' st' f' t' v'] w fun e w' => e = .returned (.bool r) ∧ Holds E s L w') :
    Calls Try.prog 25 #[.agg #[.string nm, .func (.func g) #[] #[]], .pointer (some ⟨b1, 0, none⟩), .pointer (some ⟨b2, 0, none⟩)] w fun e w' => e = .returned (.bool !r) ∧ Holds E s L w' := by
  go_enter Try.func25, Try.ntmps25
  go_wp2_with (first
    | ((with_reducible refine OpG.list rfl ?_); first
      | (refine G_box 48 _ rfl (v := Value.agg _) rfl H ?_; clear H; intro b w1 H; simp only [Value.cells] at H)
      | (refine G_p1 _ _ rfl (Try.isAgg27 _) rfl H rfl ?_)
      | (refine G_pNi (i1 + 1) _ _ rfl (Try.isAgg26 _) rfl H h1 (Try.sizeOf26 _) ?_)
      | (refine G_pNi (i2 + 1) _ _ rfl (Try.isAgg26 _) rfl H h2 (Try.sizeOf26 _) ?_))
    | (refine (hg _ _ H).mono ?_; clear H; rintro e w1 ⟨rfl, H⟩))
  go_ret
  exact ⟨rfl, H.drop⟩

def rq (st t st' f' : Int) : Nat → Bool
  | 0 => !(decide (st = 1) && decide (st' = 1))
  | 1 => !decide (0 ≤ t)
  | _ => !decide (t < f')
theorem not1_at (H : Holds E s L w) {b1 b2 i1 i2 : Nat} (h1 : L[i1]? = some (pt b1 (.cells (tcells p st f t v).toArray 26 (0, 0))))
    (h2 : L[i2]? = some (pt b2 (.cells (tcells p' st' f' t' v').toArray 26 (0, 0)))) (k : Nat) (hk : k < 3) :
    ∃ nm g, ruleCells[k * 2]? = some (.string nm) ∧ ruleCells[k * 2 + 1]? = some (.func (.func g) #[] #[]) ∧
    Calls Try.prog 25 #[.agg #[.string nm, .func (.func g) #[] #[]], .pointer (some ⟨b1, 0, none⟩), .pointer (some ⟨b2, 0, none⟩)] w fun e w' => e = .returned (.bool (rq st t st' f' k)) ∧ Holds E s L w' := by
  match k with
  | 0 => exact ⟨_, _, rfl, rfl, not1_spec p st f t p' st' f' t' v v' H _ _ _ (fun _ _ => Try.call33 _ _) h1 h2 (fun L w H => rule1_spec p st f t p' st' f' t' v v' H)⟩
  | 1 => exact ⟨_, _, rfl, rfl, not1_spec p st f t p' st' f' t' v v' H _ _ _ (fun _ _ => Try.call34 _ _) h1 h2 (fun L w H => rule2_spec p st f t p' st' f' t' v v' H)⟩
  | 2 => exact ⟨_, _, rfl, rfl, not1_spec p st f t p' st' f' t' v v' H _ _ _ (fun _ _ => Try.call35 _ _) h1 h2 (fun L w H => rule3_spec p st f t p' st' f' t' v v' H)⟩
  | k + 3 => omega
set_option maxHeartbeats 1000000 in
theorem indexRule_spec (H : Holds E s L w) {b1 b2 i1 i2 g i0 : Nat} (h0 : L[i0]? = some (pt g (.cells ruleCells.toArray 48 (0, 0)))) (h1 : L[i1]? = some (pt b1 (.cells (tcells p st f t v).toArray 26 (0, 0))))
    (h2 : L[i2]? = some (pt b2 (.cells (tcells p' st' f' t' v').toArray 26 (0, 0)))) :
    Calls Try.prog 32 #[.slice (some ⟨g, 0, none⟩) 3 3, .func (.func 25) #[] #[.pointer (some ⟨b1, 0, none⟩), .pointer (some ⟨b2, 0, none⟩)]] w
      fun e w' => ∃ r : Int, e = .returned (.int .i64 r) ∧ decide (0 ≤ r) = !(bef st t st' f') ∧ Holds E s L w' := by
  go_enter Try.func32, Try.ntmps32
  go_wp2
  go_loopw [8] (fun i wr => ∃ k : Nat, k ≤ 3 ∧ i = .int .i64 k ∧ (∀ j, j < k → rq st t st' f' j = false) ∧ Holds E s L wr) (fun i _ => 3 - (intOf i).toNat)
  case atStart => exact ⟨0, by omega, rfl, fun j hj => by omega, H⟩
  case round =>
    clear H
    obtain ⟨k, hk, rfl, hq, H⟩ := hrel
    have HQ := Lib.hid hq
    clear hq
    by_cases hlt : k < 3
    · obtain ⟨nm, gg, e1, e2, hcall⟩ := not1_at p st f t p' st' f' t' v v' H h1 h2 k hlt
      have hc : ∀ j u, [Value.string nm, Value.func (.func gg) #[] #[]][j]? = some u → wr.cell? ((⟨g, k * 2, none⟩ : Addr).add j) = some u := fun j u hu => by
        have e : (⟨g, k * 2, none⟩ : Addr).add j = ⟨g, k * 2 + j, none⟩ := by unfold Addr.add; split <;> simp_all
        rw [e]; simp only [World.cell?, (H.front i0 h0).at_pt]
        match j with
        | 0 => simp only [List.getElem?_cons_zero] at hu; rw [← hu]; simpa using e1
        | 1 => simp only [List.getElem?_cons_succ, List.getElem?_cons_zero] at hu; rw [← hu]; simpa using e2
        | j + 2 => simp at hu
      have hlt' : (k : Int) < 3 := by omega
      clear e1 e2 hlt
      cases hqk : rq st t st' f' k with
      | true =>
        rw [hqk] at hcall
        have HK := Lib.hid hqk
        clear hqk
        go_wp2_with (first
          | ((with_reducible refine OpG.list rfl ?_); (refine G_agg _ _ rfl (Try.isAgg48 _) (Try.sizeOf48 _) rfl hc ?_))
          | (go_at_call 25; refine hcall.mono ?_; rintro e w1 ⟨rfl, H⟩))
        go_ret
        refine ⟨k, rfl, ?_, H⟩
        have := HK.out
        have e3 : decide (0 ≤ (k : Int)) = true := by simp
        rw [e3]
        match k, this with
        | 0, h => simp only [rq, Bool.not_eq_true'] at h; simp [bef, h]
        | 1, h => simp only [rq, Bool.not_eq_true'] at h; simp [bef, h]
        | k + 2, h => simp only [rq, Bool.not_eq_true'] at h; simp [bef, h]
      | false =>
        rw [hqk] at hcall
        have HK := Lib.hid hqk
        clear hqk
        go_wp2_with (first
          | ((with_reducible refine OpG.list rfl ?_); (refine G_agg _ _ rfl (Try.isAgg48 _) (Try.sizeOf48 _) rfl hc ?_))
          | (go_at_call 25; refine hcall.mono ?_; rintro e w1 ⟨rfl, H⟩))
        go_roundw
        case rel =>
          refine ⟨k + 1, by omega, by go_num, fun j hj => ?_, H⟩
          by_cases e : j = k
          · subst e; exact HK.out
          · exact HQ.out j (by omega)
        case measure => simp [intOf]; omega
    · obtain rfl : k = 3 := by omega
      clear hlt
      go_wp2
      go_ret
      refine ⟨-1, rfl, ?_, H⟩
      have a0 := HQ.out 0 (by omega)
      have a1 := HQ.out 1 (by omega)
      have a2 := HQ.out 2 (by omega)
      simp only [rq, Bool.not_eq_false'] at a0 a1 a2
      simp only [Bool.and_eq_true] at a0
      simp [bef, a0, a1, a2]
end
end Go.Proofs.Ytkppfcfnpajpbaa
