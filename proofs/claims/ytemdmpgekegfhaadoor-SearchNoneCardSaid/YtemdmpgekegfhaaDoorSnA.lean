/- SearchNone: plain: without steps nothing is known, or nothing is needed. -/
import Derived.Test.YtemdmpgekegfhaaDoorSr1
namespace Go.Proofs.YtemdmpgekegfhaaDoor
open Go.RowKit
set_option linter.all false
set_option maxRecDepth 10000

theorem srun_zero {l : List Txn} {left : Int} {met : ByteArray → Option Bool} {x : Nat} {m : MSt} : ∀ (j k : Nat), k + j = l.length → ∃ a, (a = 2 ∨ a = 3) ∧ srun l 0 (j + 2) [⟨-1, k, m⟩] x met left 0 = some (a, [], 0)
  | 0, k, h => by
    refine ⟨2, .inl rfl, ?_⟩
    simp only [srun]
    rw [if_pos (show k = l.length by omega)]
  | j + 1, k, h => by
    obtain ⟨a, ha, e⟩ := srun_zero (l := l) (left := left) (met := met) (x := x) (m := m) j (k + 1) (by omega)
    show ∃ a, _ ∧ srun l 0 ((j + 2) + 1) _ _ _ _ _ = _
    rw [srun]
    rw [if_neg (show ¬ k = l.length by omega)]
    by_cases hm : mayB l x k = false
    · rw [if_pos hm]; exact ⟨a, ha, e⟩
    · rw [if_neg hm, if_pos rfl]; exact ⟨3, .inr rfl, rfl⟩
theorem search_zero (l : List Txn) {n : Int} (hn : n ≤ 0) : ∃ R, search_f (l.length + 2) l n = some R ∧ R.2.1 = [] ∧ R.2.2 = 0 ∧ (okN l = 0 → l.length ≤ 300 → R.1 = 1) ∧ (¬ (okN l = 0 ∧ l.length ≤ 300) → R.1 = 2 ∨ R.1 = 3) := by
  unfold search_f
  by_cases h : 300 < l.length
  · rw [if_pos h]; exact ⟨_, rfl, rfl, rfl, fun _ h2 => by omega, fun _ => .inr rfl⟩
  · rw [if_neg h]
    by_cases h0 : okN l = 0
    · rw [if_pos h0]; exact ⟨_, rfl, rfl, rfl, fun _ _ => rfl, fun h2 => absurd ⟨h0, by omega⟩ h2⟩
    · rw [if_neg h0, show min (max n 0) 200000 = 0 by omega]
      obtain ⟨a, ha, e⟩ := srun_zero (l := l) (left := okN l) (met := fnil) (x := 0) (m := model_New_f) l.length 0 (by omega)
      exact ⟨_, e, rfl, rfl, fun h2 => absurd h2 h0, fun _ => ha⟩
theorem okN_any (l : List Txn) : (okN l = 0) ↔ (l.any fun t => t.state == 1) = false := by
  unfold okN
  rw [List.any_eq_false]
  constructor
  · intro h t ht hs
    have : t ∈ l.filter fun t => t.state == 1 := List.mem_filter.2 ⟨ht, hs⟩
    have h' : (l.filter fun t => t.state == 1).length = 0 := by omega
    rw [List.length_eq_zero_iff.1 h'] at this
    cases this
  · intro h
    have : (l.filter fun t => t.state == 1) = [] := List.filter_eq_nil_iff.2 h
    rw [this]; rfl
theorem Search_big {E : World} {s : SH} {L : List HP} {w : World} {n c : Nat} {A : Option Addr} {steps : Int} (hbig : 300 < n) (H : Holds E s L w) :
    Calls Tryd.prog 48 #[.slice A n c, .int .i64 steps] w fun e w' => ∃ s', e = .returned (.tuple #[.int .i64 3, .slice none 0 0, .int .i64 0]) ∧ Sub s s' ∧ Holds E s' L w' := by
  have hd : decide ((n : Int) > 300) = true := decide_eq_true (by omega)
  by_cases h4 : n ≤ 4096
  · have hb := bnewB_c h4 H
    clear hbig h4 H
    go_enter Tryd.func48, Tryd.ntmps48
    go_wp2_with (go_at_call 97; refine hb.mono ?_; clear hb; rintro e w1 ⟨p, b, s1, rfl, hs1, hset, H1⟩)
    exact ret3 rfl (rv_tmp rfl) (rv_tmp rfl) (rv_tmp rfl) rfl ⟨s1, rfl, hs1, H1.drop⟩
  · have hb := bnewX_c (w := w) (n := n) (by omega)
    clear hbig h4
    go_enter Tryd.func48, Tryd.ntmps48
    go_wp2_with (go_at_call 97; refine hb.mono ?_; clear hb; rintro e w1 ⟨rfl, rfl⟩)
    exact ret3 rfl (rv_tmp rfl) (rv_tmp rfl) (rv_tmp rfl) rfl ⟨s, rfl, Sub.refl s, H⟩
theorem isok_c (t : Txn) (A : Option Addr) (c : Nat) (w : World) : Calls Tryd.prog 52 #[tv t A c] w fun e w' => e = .returned (.bool (t.state == 1)) ∧ Below w.heap.size w w' := by
  obtain ⟨pr, st, fr, to, ops⟩ := t
  unfold tv
  show Calls _ _ _ _ fun e w' => e = .returned (.bool (st == 1)) ∧ _
  by_cases h : st = 1
  · subst h
    go_enter Tryd.func52, Tryd.ntmps52
    go_wp2
    go_ret
    exact ⟨rfl, (Below.refl _ _).alloc (Nat.le_refl _) _⟩
  · have hd : (st == 1) = false := by simpa using h
    have hd2 : decide (st = 1) = false := by simpa using h
    go_enter Tryd.func52, Tryd.ntmps52
    go_wp2
    go_ret
    exact ⟨by simp [hd], (Below.refl _ _).alloc (Nat.le_refl _) _⟩
set_option maxHeartbeats 4000000 in
theorem idx_c {E : World} {s : SH} {L : List HP} {w : World} {c : Nat} {A : Option Addr} {l : List Txn} (hl : kT.Sl s (.slice A l.length c) l) (hn : l.length ≤ 140737488355328) (H : Holds E s L w) :
    Calls Tryd.prog 102 #[.slice A l.length c, .func (.func 52) #[] #[]] w fun e w' => ∃ r : Int, e = .returned (.int .i64 r) ∧ (decide (r ≥ 0) = l.any fun t => t.state == 1) ∧ Holds E s L w' := by
  have HNL := Lib.hid hn
  go_enter Tryd.func102, Tryd.ntmps102
  go_wp2
  go_loopw [5, 8] (fun j i wr => ∃ k : Nat, k ≤ l.length ∧ i = .int .i64 k ∧ RowKit.Hid (((l.take k).any fun t => t.state == 1) = false) ∧ Holds E s L wr) (fun _ i _ => l.length - (intOf i).toNat)
  case atStart => exact ⟨0, Nat.zero_le _, rfl, Lib.hid rfl, H⟩
  case round =>
    clear H
    obtain ⟨k, hk0, rfl, hany, H⟩ := hrel
    by_cases hk : k < l.length
    · obtain ⟨b, off, Ak, ck, hA, hcm, -⟩ := txn_at hl hk
      subst hA
      have t0 : wr.cell? ⟨b, off + k * 5, none⟩ = some (.int .i64 (tn l k).proc) := by simpa using hcm.cell' H 0 _ rfl
      have t1 := hcm.cell' H 1 _ rfl
      have t2 := hcm.cell' H 2 _ rfl
      have t3 := hcm.cell' H 3 _ rfl
      have t4 := hcm.cell' H 4 _ rfl
      clear hcm
      have htn : (l.take (k + 1)).any (fun t => t.state == 1) = ((tn l k).state == 1) := by
        have e : tn l k = l[k] := by unfold tn; simp [hk]
        rw [List.take_add_one, List.getElem?_eq_getElem hk, List.any_append, hany.out, e]; simp
      have HTN := Lib.hid htn
      clear htn
      rcases Bool.eq_false_or_eq_true ((tn l k).state == 1) with hs | hs
      · have HS := Lib.hid hs
        clear hs
        go_wp2_with (go_at_call 52; refine (isok_c (tn l k) Ak ck _).mono ?_; rintro e w1 ⟨rfl, hw1⟩; rw [HS.out]; have H1 := H.below hw1; clear H t0 t1 t2 t3 t4)
        refine ret1 rfl (rv_tmp rfl) rfl ⟨_, rfl, ?_, H1⟩
        have h1 : l.any (fun t => t.state == 1) = true := by
          have := HTN.out; rw [HS.out] at this
          rw [List.any_eq_true] at this ⊢
          obtain ⟨t, ht, h⟩ := this
          exact ⟨t, List.mem_of_mem_take ht, h⟩
        rw [h1]; exact decide_eq_true (Int.natCast_nonneg k)
      · have HS := Lib.hid hs
        clear hs
        go_wp2_with (go_at_call 52; refine (isok_c (tn l k) Ak ck _).mono ?_; rintro e w1 ⟨rfl, hw1⟩; rw [HS.out]; have H1 := H.below hw1; clear H t0 t1 t2 t3 t4)
        refine ⟨⟨k + 1, hk, rfl, Lib.hid (HTN.out.trans HS.out), H1⟩, ?_⟩
        simp only [intOf, Int.toNat_natCast]; omega
    · have hk1 : k = l.length := by omega
      subst hk1
      have hdec : decide ((l.length : Int) < (l.length : Int)) = false := by simp
      have ha := hany.out
      rw [List.take_length] at ha
      have HA := Lib.hid ha
      clear ha hk hk0
      go_wp2
      exact ret1 rfl (rv_tmp rfl) rfl ⟨-1, rfl, by rw [HA.out]; rfl, H⟩
theorem cont_c {E : World} {s : SH} {L : List HP} {w : World} {c : Nat} {A : Option Addr} {l : List Txn} (hl : kT.Sl s (.slice A l.length c) l) (hn : l.length ≤ 140737488355328) (H : Holds E s L w) :
    Calls Tryd.prog 51 #[.slice A l.length c, .func (.func 52) #[] #[]] w fun e w' => e = .returned (.bool (l.any fun t => t.state == 1)) ∧ Holds E s L w' := by
  have hi := idx_c hl hn H
  clear H
  go_enter Tryd.func51, Tryd.ntmps51
  go_wp2_with (go_at_call 102; refine hi.mono ?_; clear hi; rintro e w1 ⟨r, rfl, hr, H⟩; have HR := Lib.hid hr; clear hr)
  refine ret1 rfl (rv_tmp rfl) rfl ⟨?_, H⟩
  rw [← HR.out]
  first | rfl | simp
end Go.Proofs.YtemdmpgekegfhaaDoor
