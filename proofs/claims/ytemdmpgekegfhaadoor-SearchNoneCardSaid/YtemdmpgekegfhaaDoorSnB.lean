/- SearchNone: walked. -/
import Derived.Test.YtemdmpgekegfhaaDoorSnA
import Derived.Test.YtemdmpgekegfhaaDoorMake
namespace Go.Proofs.YtemdmpgekegfhaaDoor
open Go.RowKit
set_option linter.all false
set_option maxRecDepth 10000

set_option maxHeartbeats 4000000 in
theorem searchNone_w {E : World} {s : SH} {L : List HP} {w : World} {c : Nat} {A : Option Addr} {l : List Txn} {steps : Int} (hl : kT.Sl s (.slice A l.length c) l) (hn : l.length ≤ 140737488355328) (hT : Tz s) (hP : Pw s) (H : Holds E s L w) :
    Calls Tryd.prog 14 #[.slice A l.length c, .int .i64 steps] w fun e w' => e = .returned (.bool true) ∧ ∃ s', Sub s s' ∧ Holds E s' L w' := by
  obtain ⟨st, hst, hst0⟩ : ∃ st : Int, (if (0 : Int) < steps then 0 else steps) = st ∧ st ≤ 0 := ⟨_, rfl, by split <;> omega⟩
  obtain ⟨R, hR, e1, e2, e3, e4⟩ := search_zero l hst0
  obtain ⟨r1, r2, r3⟩ := R
  simp only at e1 e2 e3 e4
  subst e1; subst e2
  have HST := Lib.hid hst
  have hb := Search_c (w := w) hl hT hP hR H
  clear hR hst H hst0
  have hcase : ((l.any fun t => t.state == 1) = false ∧ l.length ≤ 300 ∧ r1 = 1) ∨ ((l.any fun t => t.state == 1) = false ∧ 300 < l.length ∧ (r1 = 2 ∨ r1 = 3)) ∨ ((l.any fun t => t.state == 1) = true ∧ (r1 = 2 ∨ r1 = 3)) := by
    have hA := okN_any l
    rcases Bool.eq_false_or_eq_true (l.any fun t => t.state == 1) with hv | hv
    · refine .inr (.inr ⟨hv, e4 fun h => ?_⟩)
      rw [hA.1 h.1] at hv; cases hv
    · have h0 := hA.2 hv
      by_cases h3 : l.length ≤ 300
      · exact .inl ⟨hv, h3, e3 h0 h3⟩
      · exact .inr (.inl ⟨hv, by omega, e4 fun h => h3 h.2⟩)
  clear e3 e4
  have HN := Lib.hid hn
  clear hn
  rcases hcase with ⟨hv, hlen, rfl⟩ | ⟨hv, hlen, rfl | rfl⟩ | ⟨hv, rfl | rfl⟩
  case' inl =>
    have hd : decide ((l.length : Int) ≤ 300) = true := decide_eq_true (by omega)
    clear hlen
  case' inr.inl.inl =>
    have hd : decide ((l.length : Int) ≤ 300) = false := decide_eq_false (by omega)
    clear hlen
  case' inr.inl.inr =>
    have hd : decide ((l.length : Int) ≤ 300) = false := decide_eq_false (by omega)
    clear hlen
  all_goals
    have HV := Lib.hid hv
    clear hv
    go_enter Tryd.func14, Tryd.ntmps14
    go_wp2_with (first
      | (go_at_call 48; first
        | (refine hb.mono ?_
           clear hb
           rintro e w1 ⟨v, s1, rfl, hs1, H1⟩
           obtain ⟨A1, c1, ev, -⟩ := H1.len
           rw [List.length_nil] at ev
           subst ev)
        | (refine (Search_big (n := 301) (by decide) H3).mono ?_
           clear H3
           rintro e w4 ⟨s4, rfl, hs4, H4⟩))
      | (go_at_call 51
         refine (cont_c (hl.mono hs1) HN.out H1).mono ?_
         clear H1
         rintro e w2 ⟨rfl, H2⟩
         rw [HV.out])
      | ((with_reducible refine OpG.list rfl ?_); refine O_min rfl rfl rfl ?_; rw [HST.out])
      | ((with_reducible refine OpG.list rfl ?_)
         refine G_make (d := kT.sh s1) ⟨kT_at.ht, kT_at.bypos, kT_at.hi⟩ _ _ rfl 301 rfl rfl (⟨0, 0, 0, 0, []⟩ : Txn) kT_zero (show 301 * 56 ≤ 140737488355328 by decide) H2 ?_
         clear H2
         intro v3 w3 H3
         obtain ⟨A3, c3, ev3, -⟩ := H3.len
         rw [List.length_replicate] at ev3
         subst ev3))
    exact ret1 rfl (rv_tmp rfl) rfl ⟨rfl, s4, hs1.trans hs4, H4.drop.drop⟩
end Go.Proofs.YtemdmpgekegfhaaDoor
