/- Walks, printed by fx.py: part 1. -/
import Derived.Test.YtemdmpgekegfhaaDoorKinds
import Derived.Test.YtemdmpgekegfhaaDoorDrawP
import Derived.Test.YtemdmpgekegfhaaDoorOwnT
import Derived.Test.YtemdmpgekegfhaaDoorErr
import Derived.Test.YtemdmpgekegfhaaDoorAsW
import Derived.Test.YtemdmpgekegfhaaDoorRet
import Derived.Test.YtemdmpgekegfhaaDoorSmallS
namespace Go.Proofs.YtemdmpgekegfhaaDoor
open Go.RowKit
set_option linter.all false
set_option maxRecDepth 10000
def histtext_isKey_l4 (a0 : ByteArray) : Nat → Nat → Option ((Bool ⊕ Unit))
  | k4, 0 => some (.inr ())
  | k4, r4 + 1 => (btI a0 (k4 : Int)).bind fun u2 => if (decide (u2 < 97)) = true then (if (decide (u2 < 48)) = true then (some (.inl false)) else (if (decide (u2 > 57)) = true then (some (.inl false)) else (histtext_isKey_l4 a0 (k4 + 1) r4))) else (if (decide (u2 > 122)) = true then (if (decide (u2 < 48)) = true then (some (.inl false)) else (if (decide (u2 > 57)) = true then (some (.inl false)) else (histtext_isKey_l4 a0 (k4 + 1) r4))) else (histtext_isKey_l4 a0 (k4 + 1) r4))

def histtext_isKey_f (a0 : ByteArray) : Option Bool := if ((decide ((a0.size : Int) < 1)) || (decide ((a0.size : Int) > 6))) = true then (some false) else ((btI a0 0).bind fun u1 => if (decide (u1 < 97)) = true then (some false) else (if (decide (u1 > 122)) = true then (some false) else ((histtext_isKey_l4 a0 0 ((a0.size : Int)).toNat).bind fun | .inl z4_r => (some z4_r) | .inr () => (some true))))

set_option maxHeartbeats 4000000 in
theorem histtext_isKey_w {E : World} {s : SH} {L : List HP} {w : World} {a0 : ByteArray} (hz_p0 : a0.size ≤ 140737488351232) {R : Bool} (hm : histtext_isKey_f a0 = some R) (H : Holds E s (L) w) :
    Calls Tryd.prog 172 #[.string a0] w fun e w' => e = .returned (.bool R) ∧ Holds E s (L) w' := by
  unfold histtext_isKey_f at hm
  go_enter Tryd.func172, Tryd.ntmps172
  refine wp_seq ?_
  refine wp_region_lit ?_
  apply seq_op (V := .bool false) rfl
  · exact fun _ h => O_as rfl rfl h
  (try simp only [PT])
  refine list_end ?_
  refine then_norm ?_
  refine wp_seq ?_
  refine wp_seq ?_
  rcases Bool.eq_false_or_eq_true ((decide ((a0.size : Int) < 1)) || (decide ((a0.size : Int) > 6))) with hg1 | hg1
  · replace hm := ifT hg1 hm
    refine wp_region_lit ?_
    apply seq_op (V := .string a0) rfl
    · exact fun _ h => O_mv rfl rfl h
    (try simp only [PT])
    apply seq_op (V := .int .i64 (a0.size : Int)) rfl
    · exact fun _ h => O_slen rfl Tryd.underlying9 rfl h
    (try simp only [PT])
    apply seq_op (V := .bool (decide ((a0.size : Int) < 1))) rfl
    · exact fun _ h => O_bin rfl rfl rfl eqg_int r_lss h
    (try simp only [PT])
    apply seq_op (V := .bool (decide ((a0.size : Int) < 1))) rfl
    · exact fun _ h => O_mv rfl rfl h
    (try simp only [PT])
    refine seq_opg (c := (!(decide ((a0.size : Int) < 1)))) (V := .string a0) (by first | exact wanted_f rfl rfl rfl | exact wanted_vf rfl rfl rfl) ?_ ?_
    · intro hc Φ hΦ; refine O_mv rfl rfl ?_; exact hΦ
    (try simp only [PT])
    refine seq_opg (c := (!(decide ((a0.size : Int) < 1)))) (V := .int .i64 (a0.size : Int)) (by first | exact wanted_f rfl rfl rfl | exact wanted_vf rfl rfl rfl) ?_ ?_
    · intro hc Φ hΦ; (repeat (first | rw [vg_of hc] | rw [vg_of (and_l hc)] | rw [vg_of (and_l (and_l hc))] | rw [vg_of (and_l (and_l (and_l hc)))] | rw [vg_and hc])); refine O_slen rfl Tryd.underlying9 rfl ?_; exact hΦ
    (try simp only [PT])
    refine seq_opg (c := (!(decide ((a0.size : Int) < 1)))) (V := .bool (decide ((a0.size : Int) > 6))) (by first | exact wanted_f rfl rfl rfl | exact wanted_vf rfl rfl rfl) ?_ ?_
    · intro hc Φ hΦ; (repeat (first | rw [vg_of hc] | rw [vg_of (and_l hc)] | rw [vg_of (and_l (and_l hc))] | rw [vg_of (and_l (and_l (and_l hc)))] | rw [vg_and hc])); refine O_bin rfl rfl rfl eqg_int r_gtr ?_; exact hΦ
    (try simp only [PT])
    apply seq_op (V := .bool ((decide ((a0.size : Int) < 1)) || (decide ((a0.size : Int) > 6)))) rfl
    · exact fun _ h => G_or _ _ _ rfl rfl rfl rfl h
    (try simp only [PT])
    apply seq_op (V := .bool ((decide ((a0.size : Int) < 1)) || (decide ((a0.size : Int) > 6)))) rfl
    · exact fun _ h => O_mv rfl rfl h
    (try simp only [PT])
    refine seq_skip ((wanted_f rfl rfl rfl).trans (congrArg not hg1)) ?_
    (try simp only [PT])
    refine seq_skip ((wanted_f rfl rfl rfl).trans (congrArg not hg1)) ?_
    (try simp only [PT])
    refine seq_skip ((wanted_f rfl rfl rfl).trans (congrArg not hg1)) ?_
    (try simp only [PT])
    apply seq_op (V := .bool true) rfl
    · exact fun _ h => O_pickT rfl rfl hg1 rfl h
    (try simp only [PT])
    apply seq_op (V := .bool true) rfl
    · exact fun _ h => O_mv rfl rfl h
    (try simp only [PT])
    refine seq_skip ((wanted_f rfl rfl rfl).trans (congrArg not rfl)) ?_
    (try simp only [PT])
    refine seq_skip ((wanted_f rfl rfl rfl).trans (congrArg not rfl)) ?_
    (try simp only [PT])
    refine seq_skip ((wanted_f rfl rfl rfl).trans (congrArg not rfl)) ?_
    (try simp only [PT])
    apply seq_op (V := .bool true) rfl
    · exact fun _ h => O_pickT rfl rfl rfl rfl h
    (try simp only [PT])
    refine list_end ?_
    refine then_norm ?_
    refine wp_cond_true rfl ?_
    refine wp_seq ?_
    refine wp_region_lit ?_
    apply seq_op (V := .bool false) rfl
    · exact fun _ h => O_as rfl rfl h
    (try simp only [PT])
    refine list_end ?_
    refine then_norm ?_
    refine wp_ret ?_
    refine then_ret ?_
    have hm := Option.some.inj hm
    subst hm
    exact ret1 rfl (rv_tmp rfl) rfl ⟨rfl, H⟩
  · replace hm := ifF hg1 hm
    obtain ⟨u1, gx1, hm⟩ := bs hm
    obtain ⟨kk1, gk1, gl1, gd1⟩ := btI_some gx1
    rcases Bool.eq_false_or_eq_true (decide (u1 < 97)) with hg2 | hg2
    · replace hm := ifT hg2 hm
      obtain ⟨kk2, gk2, gl2, gd2⟩ := btI_some gx1
      refine wp_region_lit ?_
      apply seq_op (V := .string a0) rfl
      · exact fun _ h => O_mv rfl rfl h
      (try simp only [PT])
      apply seq_op (V := .int .i64 (a0.size : Int)) rfl
      · exact fun _ h => O_slen rfl Tryd.underlying9 rfl h
      (try simp only [PT])
      apply seq_op (V := .bool (decide ((a0.size : Int) < 1))) rfl
      · exact fun _ h => O_bin rfl rfl rfl eqg_int r_lss h
      (try simp only [PT])
      apply seq_op (V := .bool (decide ((a0.size : Int) < 1))) rfl
      · exact fun _ h => O_mv rfl rfl h
      (try simp only [PT])
      refine seq_opg (c := (!(decide ((a0.size : Int) < 1)))) (V := .string a0) (by first | exact wanted_f rfl rfl rfl | exact wanted_vf rfl rfl rfl) ?_ ?_
      · intro hc Φ hΦ; refine O_mv rfl rfl ?_; exact hΦ
      (try simp only [PT])
      refine seq_opg (c := (!(decide ((a0.size : Int) < 1)))) (V := .int .i64 (a0.size : Int)) (by first | exact wanted_f rfl rfl rfl | exact wanted_vf rfl rfl rfl) ?_ ?_
      · intro hc Φ hΦ; (repeat (first | rw [vg_of hc] | rw [vg_of (and_l hc)] | rw [vg_of (and_l (and_l hc))] | rw [vg_of (and_l (and_l (and_l hc)))] | rw [vg_and hc])); refine O_slen rfl Tryd.underlying9 rfl ?_; exact hΦ
      (try simp only [PT])
      refine seq_opg (c := (!(decide ((a0.size : Int) < 1)))) (V := .bool (decide ((a0.size : Int) > 6))) (by first | exact wanted_f rfl rfl rfl | exact wanted_vf rfl rfl rfl) ?_ ?_
      · intro hc Φ hΦ; (repeat (first | rw [vg_of hc] | rw [vg_of (and_l hc)] | rw [vg_of (and_l (and_l hc))] | rw [vg_of (and_l (and_l (and_l hc)))] | rw [vg_and hc])); refine O_bin rfl rfl rfl eqg_int r_gtr ?_; exact hΦ
      (try simp only [PT])
      apply seq_op (V := .bool ((decide ((a0.size : Int) < 1)) || (decide ((a0.size : Int) > 6)))) rfl
      · exact fun _ h => G_or _ _ _ rfl rfl rfl rfl h
      (try simp only [PT])
      apply seq_op (V := .bool ((decide ((a0.size : Int) < 1)) || (decide ((a0.size : Int) > 6)))) rfl
      · exact fun _ h => O_mv rfl rfl h
      (try simp only [PT])
      refine seq_opw (V := .string a0) ((wanted_f rfl rfl rfl).trans (congrArg not hg1)) ?_ ?_
      · exact fun _ h => O_mv rfl rfl h
      (try simp only [PT])
      refine seq_opw (V := .int .u8 u1) ((wanted_f rfl rfl rfl).trans (congrArg not hg1)) ?_ ?_
      · exact fun _ h => O_sidx rfl Tryd.underlying9 rfl rfl gk2 gl2 gd2 h
      (try simp only [PT])
      refine seq_opw (V := .bool (decide (u1 < 97))) ((wanted_f rfl rfl rfl).trans (congrArg not hg1)) ?_ ?_
      · exact fun _ h => O_bin rfl rfl rfl eqg_int r_lss h
      (try simp only [PT])
      apply seq_op (V := .bool (decide (u1 < 97))) rfl
      · exact fun _ h => O_pickF rfl rfl hg1 rfl h
      (try simp only [PT])
      apply seq_op (V := .bool (decide (u1 < 97))) rfl
      · exact fun _ h => O_mv rfl rfl h
      (try simp only [PT])
      refine seq_skip ((wanted_f rfl rfl rfl).trans (congrArg not hg2)) ?_
      (try simp only [PT])
      refine seq_skip ((wanted_f rfl rfl rfl).trans (congrArg not hg2)) ?_
      (try simp only [PT])
      refine seq_skip ((wanted_f rfl rfl rfl).trans (congrArg not hg2)) ?_
      (try simp only [PT])
      apply seq_op (V := .bool true) rfl
      · exact fun _ h => O_pickT rfl rfl hg2 rfl h
      (try simp only [PT])
      refine list_end ?_
      refine then_norm ?_
      refine wp_cond_true rfl ?_
      refine wp_seq ?_
      refine wp_region_lit ?_
      apply seq_op (V := .bool false) rfl
      · exact fun _ h => O_as rfl rfl h
      (try simp only [PT])
      refine list_end ?_
      refine then_norm ?_
      refine wp_ret ?_
      refine then_ret ?_
      have hm := Option.some.inj hm
      subst hm
      exact ret1 rfl (rv_tmp rfl) rfl ⟨rfl, H⟩
    · replace hm := ifF hg2 hm
      obtain ⟨kk2, gk2, gl2, gd2⟩ := btI_some gx1
      obtain ⟨kk3, gk3, gl3, gd3⟩ := btI_some gx1
      refine wp_region_lit ?_
      apply seq_op (V := .string a0) rfl
      · exact fun _ h => O_mv rfl rfl h
      (try simp only [PT])
      apply seq_op (V := .int .i64 (a0.size : Int)) rfl
      · exact fun _ h => O_slen rfl Tryd.underlying9 rfl h
      (try simp only [PT])
      apply seq_op (V := .bool (decide ((a0.size : Int) < 1))) rfl
      · exact fun _ h => O_bin rfl rfl rfl eqg_int r_lss h
      (try simp only [PT])
      apply seq_op (V := .bool (decide ((a0.size : Int) < 1))) rfl
      · exact fun _ h => O_mv rfl rfl h
      (try simp only [PT])
      refine seq_opg (c := (!(decide ((a0.size : Int) < 1)))) (V := .string a0) (by first | exact wanted_f rfl rfl rfl | exact wanted_vf rfl rfl rfl) ?_ ?_
      · intro hc Φ hΦ; refine O_mv rfl rfl ?_; exact hΦ
      (try simp only [PT])
      refine seq_opg (c := (!(decide ((a0.size : Int) < 1)))) (V := .int .i64 (a0.size : Int)) (by first | exact wanted_f rfl rfl rfl | exact wanted_vf rfl rfl rfl) ?_ ?_
      · intro hc Φ hΦ; (repeat (first | rw [vg_of hc] | rw [vg_of (and_l hc)] | rw [vg_of (and_l (and_l hc))] | rw [vg_of (and_l (and_l (and_l hc)))] | rw [vg_and hc])); refine O_slen rfl Tryd.underlying9 rfl ?_; exact hΦ
      (try simp only [PT])
      refine seq_opg (c := (!(decide ((a0.size : Int) < 1)))) (V := .bool (decide ((a0.size : Int) > 6))) (by first | exact wanted_f rfl rfl rfl | exact wanted_vf rfl rfl rfl) ?_ ?_
      · intro hc Φ hΦ; (repeat (first | rw [vg_of hc] | rw [vg_of (and_l hc)] | rw [vg_of (and_l (and_l hc))] | rw [vg_of (and_l (and_l (and_l hc)))] | rw [vg_and hc])); refine O_bin rfl rfl rfl eqg_int r_gtr ?_; exact hΦ
      (try simp only [PT])
      apply seq_op (V := .bool ((decide ((a0.size : Int) < 1)) || (decide ((a0.size : Int) > 6)))) rfl
      · exact fun _ h => G_or _ _ _ rfl rfl rfl rfl h
      (try simp only [PT])
      apply seq_op (V := .bool ((decide ((a0.size : Int) < 1)) || (decide ((a0.size : Int) > 6)))) rfl
      · exact fun _ h => O_mv rfl rfl h
      (try simp only [PT])
      refine seq_opw (V := .string a0) ((wanted_f rfl rfl rfl).trans (congrArg not hg1)) ?_ ?_
      · exact fun _ h => O_mv rfl rfl h
      (try simp only [PT])
      refine seq_opw (V := .int .u8 u1) ((wanted_f rfl rfl rfl).trans (congrArg not hg1)) ?_ ?_
      · exact fun _ h => O_sidx rfl Tryd.underlying9 rfl rfl gk2 gl2 gd2 h
      (try simp only [PT])
      refine seq_opw (V := .bool (decide (u1 < 97))) ((wanted_f rfl rfl rfl).trans (congrArg not hg1)) ?_ ?_
      · exact fun _ h => O_bin rfl rfl rfl eqg_int r_lss h
      (try simp only [PT])
      apply seq_op (V := .bool (decide (u1 < 97))) rfl
      · exact fun _ h => O_pickF rfl rfl hg1 rfl h
      (try simp only [PT])
      apply seq_op (V := .bool (decide (u1 < 97))) rfl
      · exact fun _ h => O_mv rfl rfl h
      (try simp only [PT])
      refine seq_opw (V := .string a0) ((wanted_f rfl rfl rfl).trans (congrArg not hg2)) ?_ ?_
      · exact fun _ h => O_mv rfl rfl h
      (try simp only [PT])
      refine seq_opw (V := .int .u8 u1) ((wanted_f rfl rfl rfl).trans (congrArg not hg2)) ?_ ?_
      · exact fun _ h => O_sidx rfl Tryd.underlying9 rfl rfl gk3 gl3 gd3 h
      (try simp only [PT])
      refine seq_opw (V := .bool (decide (u1 > 122))) ((wanted_f rfl rfl rfl).trans (congrArg not hg2)) ?_ ?_
      · exact fun _ h => O_bin rfl rfl rfl eqg_int r_gtr h
      (try simp only [PT])
      apply seq_op (V := .bool (decide (u1 > 122))) rfl
      · exact fun _ h => O_pickF rfl rfl hg2 rfl h
      (try simp only [PT])
      refine list_end ?_
      refine then_norm ?_
      refine wp_cond_split rfl (fun hc => ?_) (fun hc => ?_)
      · have hc1 := hc
        clear hc
        replace hm := ifT hc1 hm
        refine wp_seq ?_
        refine wp_region_lit ?_
        apply seq_op (V := .bool false) rfl
        · exact fun _ h => O_as rfl rfl h
        (try simp only [PT])
        refine list_end ?_
        refine then_norm ?_
        refine wp_ret ?_
        refine then_ret ?_
        have hm := Option.some.inj hm
        subst hm
        exact ret1 rfl (rv_tmp rfl) rfl ⟨rfl, H⟩
      · have hc1 := hc
        clear hc
        replace hm := ifF hc1 hm
        refine wp_skip ?_
        refine then_norm ?_
        refine wp_seq ?_
        refine wp_seq ?_
        refine wp_region_lit ?_
        apply seq_op (V := .string a0) rfl
        · exact fun _ h => O_mv rfl rfl h
        (try simp only [PT])
        apply seq_op (V := .int .i64 (a0.size : Int)) rfl
        · exact fun _ h => O_slen rfl Tryd.underlying9 rfl h
        (try simp only [PT])
        apply seq_op (V := .int .i64 0) rfl
        · exact fun _ h => O_mv rfl rfl h
        (try simp only [PT])
        refine list_end ?_
        refine then_norm ?_
        refine wp_block ?_
        obtain ⟨R4, hq4, hm⟩ := bs hm
        have hn4 := int_le (size_i hz_p0)
        refine wp_loopF [none, none, some 2, some 3, none, none, none, none, none, none, none, none, none, none, none, none, none, none, none, none, none, none, none, none, some 24, some 25, some 26, some 27, some 28, some 29, some 30, some 31, some 32, some 33, some 34, some 35, some 36, some 37, some 38, some 39, some 40, some 41, some 42, some 43, some 44, some 45, some 46, some 47, some 48, some 49] rfl (by simp) (fun f w => ∃ (k4 : Nat) (r4 : Nat), k4 + r4 = ((a0.size : Int)).toNat ∧ f 24 = .int .i64 (k4 : Int) ∧ histtext_isKey_l4 a0 k4 r4 = some R4 ∧ Holds E s (L) w) (fun f w => ((a0.size : Int)).toNat - (intOf (f 24)).toNat) ?_ ?_
        · exact ⟨0, _, Nat.zero_add _, rfl, hq4, H⟩
        · clear H
          intro f w hI
          obtain ⟨k4, r4, hd4, hf24, hq4', H⟩ := hI
          clear hq4; have hq4 := hq4'; clear hq4'
          simp only [ovm, mixM]
          simp only [hf24]; clear hf24
          refine wp_seq ?_
          refine wp_region_lit ?_
          apply seq_op (V := .bool (decide ((k4 : Int) < (a0.size : Int)))) rfl
          · exact fun _ h => O_bin rfl rfl rfl eqg_int r_lss h
          (try simp only [PT])
          refine list_end ?_
          refine then_norm ?_
          refine wp_seq ?_
          refine wp_cond_split rfl (fun hc => ?_) (fun hc => ?_)
          · have hc2 := hc
            clear hc
            obtain ⟨r4', rfl, hl4, hd4''⟩ := irng_t hd4 hc2
            rw [histtext_isKey_l4] at hq4
            refine wp_skip ?_
            refine then_norm ?_
            refine wp_seq ?_
            refine wp_block ?_
            refine wp_seq ?_
            refine wp_region_lit ?_
            apply seq_op (V := .int .i64 (k4 : Int)) rfl
            · exact fun _ h => O_mv rfl rfl h
            (try simp only [PT])
            apply seq_op (V := .int .i64 (k4 : Int)) rfl
            · exact fun _ h => O_as rfl rfl h
            (try simp only [PT])
            refine list_end ?_
            refine then_norm ?_
            refine wp_seq ?_
            obtain ⟨u2, gx2, hq4⟩ := bs hq4
            obtain ⟨kk4, gk4, gl4, gd4⟩ := btI_some gx2
            rcases Bool.eq_false_or_eq_true (decide (u2 < 97)) with hg3 | hg3
            · replace hq4 := ifT hg3 hq4
              obtain ⟨kk5, gk5, gl5, gd5⟩ := btI_some gx2
              obtain ⟨kk6, gk6, gl6, gd6⟩ := btI_some gx2
              rcases Bool.eq_false_or_eq_true (decide (u2 < 48)) with hg4 | hg4
              · replace hq4 := ifT hg4 hq4
                obtain ⟨kk7, gk7, gl7, gd7⟩ := btI_some gx2
                obtain ⟨kk8, gk8, gl8, gd8⟩ := btI_some gx2
                refine wp_region_lit ?_
                apply seq_op (V := .string a0) rfl
                · exact fun _ h => O_mv rfl rfl h
                (try simp only [PT])
                apply seq_op (V := .int .i64 (k4 : Int)) rfl
                · exact fun _ h => O_mv rfl rfl h
                (try simp only [PT])
                apply seq_op (V := .int .u8 u2) rfl
                · exact fun _ h => O_sidx rfl Tryd.underlying9 rfl rfl gk7 gl7 gd7 h
                (try simp only [PT])
                apply seq_op (V := .bool (decide (u2 < 97))) rfl
                · exact fun _ h => O_bin rfl rfl rfl eqg_int r_lss h
                (try simp only [PT])
                apply seq_op (V := .bool (decide (u2 < 97))) rfl
                · exact fun _ h => O_mv rfl rfl h
                (try simp only [PT])
                refine seq_skip ((wanted_f rfl rfl rfl).trans (congrArg not hg3)) ?_
                (try simp only [PT])
                refine seq_skip ((wanted_f rfl rfl rfl).trans (congrArg not hg3)) ?_
                (try simp only [PT])
                refine seq_skip ((wanted_f rfl rfl rfl).trans (congrArg not hg3)) ?_
                (try simp only [PT])
                refine seq_skip ((wanted_f rfl rfl rfl).trans (congrArg not hg3)) ?_
                (try simp only [PT])
                apply seq_op (V := .bool true) rfl
                · exact fun _ h => O_pickT rfl rfl hg3 rfl h
                (try simp only [PT])
                apply seq_op (V := .bool true) rfl
                · exact fun _ h => O_mv rfl rfl h
                (try simp only [PT])
                refine seq_opw (V := .string a0) ((wanted_t rfl rfl rfl).trans rfl) ?_ ?_
                · exact fun _ h => O_mv rfl rfl h
                (try simp only [PT])
                refine seq_opw (V := .int .i64 (k4 : Int)) ((wanted_t rfl rfl rfl).trans rfl) ?_ ?_
                · exact fun _ h => O_mv rfl rfl h
                (try simp only [PT])
                refine seq_opw (V := .int .u8 u2) ((wanted_t rfl rfl rfl).trans rfl) ?_ ?_
                · exact fun _ h => O_sidx rfl Tryd.underlying9 rfl rfl gk8 gl8 gd8 h
                (try simp only [PT])
                refine seq_opw (V := .bool (decide (u2 < 48))) ((wanted_t rfl rfl rfl).trans rfl) ?_ ?_
                · exact fun _ h => O_bin rfl rfl rfl eqg_int r_lss h
                (try simp only [PT])
                refine seq_opw (V := .bool (decide (u2 < 48))) ((wanted_t rfl rfl rfl).trans rfl) ?_ ?_
                · exact fun _ h => O_mv rfl rfl h
                (try simp only [PT])
                refine seq_skip ((wanted_f rfl rfl rfl).trans (congrArg not hg4)) ?_
                (try simp only [PT])
                refine seq_skip ((wanted_f rfl rfl rfl).trans (congrArg not hg4)) ?_
                (try simp only [PT])
                refine seq_skip ((wanted_f rfl rfl rfl).trans (congrArg not hg4)) ?_
                (try simp only [PT])
                refine seq_skip ((wanted_f rfl rfl rfl).trans (congrArg not hg4)) ?_
                (try simp only [PT])
                refine seq_opw (V := .bool true) ((wanted_t rfl rfl rfl).trans rfl) ?_ ?_
                · exact fun _ h => O_pickT rfl rfl hg4 rfl h
                (try simp only [PT])
                apply seq_op (V := .bool true) rfl
                · exact fun _ h => O_pickT rfl rfl rfl rfl h
                (try simp only [PT])
                refine list_end ?_
                refine then_norm ?_
                refine wp_cond_true rfl ?_
                refine wp_seq ?_
                refine wp_region_lit ?_
                apply seq_op (V := .bool false) rfl
                · exact fun _ h => O_as rfl rfl h
                (try simp only [PT])
                refine list_end ?_
                refine then_norm ?_
                refine wp_ret ?_
                refine block_ret ?_
                refine then_ret ?_
                refine then_ret ?_
                refine block_ret ?_
                refine then_ret ?_
                have hq4 := Option.some.inj hq4
                subst hq4
                (try dsimp only at hm)
                have hm := Option.some.inj hm
                subst hm
                exact ret1 rfl (rv_tmp rfl) rfl ⟨rfl, H⟩
              · replace hq4 := ifF hg4 hq4
                obtain ⟨kk7, gk7, gl7, gd7⟩ := btI_some gx2
                obtain ⟨kk8, gk8, gl8, gd8⟩ := btI_some gx2
                obtain ⟨kk9, gk9, gl9, gd9⟩ := btI_some gx2
                refine wp_region_lit ?_
                apply seq_op (V := .string a0) rfl
                · exact fun _ h => O_mv rfl rfl h
                (try simp only [PT])
                apply seq_op (V := .int .i64 (k4 : Int)) rfl
                · exact fun _ h => O_mv rfl rfl h
                (try simp only [PT])
                apply seq_op (V := .int .u8 u2) rfl
                · exact fun _ h => O_sidx rfl Tryd.underlying9 rfl rfl gk7 gl7 gd7 h
                (try simp only [PT])
                apply seq_op (V := .bool (decide (u2 < 97))) rfl
                · exact fun _ h => O_bin rfl rfl rfl eqg_int r_lss h
                (try simp only [PT])
                apply seq_op (V := .bool (decide (u2 < 97))) rfl
                · exact fun _ h => O_mv rfl rfl h
                (try simp only [PT])
                refine seq_skip ((wanted_f rfl rfl rfl).trans (congrArg not hg3)) ?_
                (try simp only [PT])
                refine seq_skip ((wanted_f rfl rfl rfl).trans (congrArg not hg3)) ?_
                (try simp only [PT])
                refine seq_skip ((wanted_f rfl rfl rfl).trans (congrArg not hg3)) ?_
                (try simp only [PT])
                refine seq_skip ((wanted_f rfl rfl rfl).trans (congrArg not hg3)) ?_
                (try simp only [PT])
                apply seq_op (V := .bool true) rfl
                · exact fun _ h => O_pickT rfl rfl hg3 rfl h
                (try simp only [PT])
                apply seq_op (V := .bool true) rfl
                · exact fun _ h => O_mv rfl rfl h
                (try simp only [PT])
                refine seq_opw (V := .string a0) ((wanted_t rfl rfl rfl).trans rfl) ?_ ?_
                · exact fun _ h => O_mv rfl rfl h
                (try simp only [PT])
                refine seq_opw (V := .int .i64 (k4 : Int)) ((wanted_t rfl rfl rfl).trans rfl) ?_ ?_
                · exact fun _ h => O_mv rfl rfl h
                (try simp only [PT])
                refine seq_opw (V := .int .u8 u2) ((wanted_t rfl rfl rfl).trans rfl) ?_ ?_
                · exact fun _ h => O_sidx rfl Tryd.underlying9 rfl rfl gk8 gl8 gd8 h
                (try simp only [PT])
                refine seq_opw (V := .bool (decide (u2 < 48))) ((wanted_t rfl rfl rfl).trans rfl) ?_ ?_
                · exact fun _ h => O_bin rfl rfl rfl eqg_int r_lss h
                (try simp only [PT])
                refine seq_opw (V := .bool (decide (u2 < 48))) ((wanted_t rfl rfl rfl).trans rfl) ?_ ?_
                · exact fun _ h => O_mv rfl rfl h
                (try simp only [PT])
                refine seq_opw (V := .string a0) ((wanted_f rfl rfl rfl).trans (congrArg not hg4)) ?_ ?_
                · exact fun _ h => O_mv rfl rfl h
                (try simp only [PT])
                refine seq_opw (V := .int .i64 (k4 : Int)) ((wanted_f rfl rfl rfl).trans (congrArg not hg4)) ?_ ?_
                · exact fun _ h => O_mv rfl rfl h
                (try simp only [PT])
                refine seq_opw (V := .int .u8 u2) ((wanted_f rfl rfl rfl).trans (congrArg not hg4)) ?_ ?_
                · exact fun _ h => O_sidx rfl Tryd.underlying9 rfl rfl gk9 gl9 gd9 h
                (try simp only [PT])
                refine seq_opw (V := .bool (decide (u2 > 57))) ((wanted_f rfl rfl rfl).trans (congrArg not hg4)) ?_ ?_
                · exact fun _ h => O_bin rfl rfl rfl eqg_int r_gtr h
                (try simp only [PT])
                refine seq_opw (V := .bool (decide (u2 > 57))) ((wanted_t rfl rfl rfl).trans rfl) ?_ ?_
                · exact fun _ h => O_pickF rfl rfl hg4 rfl h
                (try simp only [PT])
                apply seq_op (V := .bool (decide (u2 > 57))) rfl
                · exact fun _ h => O_pickT rfl rfl rfl rfl h
                (try simp only [PT])
                refine list_end ?_
                refine then_norm ?_
                refine wp_cond_split rfl (fun hc => ?_) (fun hc => ?_)
                · have hc3 := hc
                  clear hc
                  replace hq4 := ifT hc3 hq4
                  refine wp_seq ?_
                  refine wp_region_lit ?_
                  apply seq_op (V := .bool false) rfl
                  · exact fun _ h => O_as rfl rfl h
                  (try simp only [PT])
                  refine list_end ?_
                  refine then_norm ?_
                  refine wp_ret ?_
                  refine block_ret ?_
                  refine then_ret ?_
                  refine then_ret ?_
                  refine block_ret ?_
                  refine then_ret ?_
                  have hq4 := Option.some.inj hq4
                  subst hq4
                  (try dsimp only at hm)
                  have hm := Option.some.inj hm
                  subst hm
                  exact ret1 rfl (rv_tmp rfl) rfl ⟨rfl, H⟩
                · have hc3 := hc
                  clear hc
                  replace hq4 := ifF hc3 hq4
                  refine wp_skip ?_
                  refine block_norm ?_
                  refine then_norm ?_
                  refine wp_region_lit ?_
                  apply seq_op (V := .int .i64 (IntKind.i64.wrap ((k4 : Int) + 1))) rfl
                  · exact fun _ h => O_bin rfl rfl rfl eqg_int r_add h
                  (try simp only [PT])
                  apply seq_op (V := .int .i64 (IntKind.i64.wrap ((k4 : Int) + 1))) rfl
                  · exact fun _ h => O_mv rfl rfl h
                  (try simp only [PT])
                  refine list_end ?_
                  refine then_norm ?_
                  refine ⟨⟨⟨rfl, rfl, rfl, rfl, rfl, rfl, rfl, rfl, rfl, rfl, rfl, rfl, rfl, rfl, rfl, rfl, rfl, rfl, rfl, rfl, rfl, rfl, rfl⟩, rfl⟩, ⟨k4 + 1, r4', hd4'', wrap_succ hl4 hn4, hq4, H⟩, ?_⟩
                  exact meas_succ hl4 hn4
            · replace hq4 := ifF hg3 hq4
              obtain ⟨kk5, gk5, gl5, gd5⟩ := btI_some gx2
              obtain ⟨kk6, gk6, gl6, gd6⟩ := btI_some gx2
              rcases Bool.eq_false_or_eq_true (decide (u2 > 122)) with hg4 | hg4
              · replace hq4 := ifT hg4 hq4
                obtain ⟨kk7, gk7, gl7, gd7⟩ := btI_some gx2
                obtain ⟨kk8, gk8, gl8, gd8⟩ := btI_some gx2
                obtain ⟨kk9, gk9, gl9, gd9⟩ := btI_some gx2
                rcases Bool.eq_false_or_eq_true (decide (u2 < 48)) with hg5 | hg5
                · replace hq4 := ifT hg5 hq4
                  obtain ⟨kk10, gk10, gl10, gd10⟩ := btI_some gx2
                  obtain ⟨kk11, gk11, gl11, gd11⟩ := btI_some gx2
                  obtain ⟨kk12, gk12, gl12, gd12⟩ := btI_some gx2
                  refine wp_region_lit ?_
                  apply seq_op (V := .string a0) rfl
                  · exact fun _ h => O_mv rfl rfl h
                  (try simp only [PT])
                  apply seq_op (V := .int .i64 (k4 : Int)) rfl
                  · exact fun _ h => O_mv rfl rfl h
                  (try simp only [PT])
                  apply seq_op (V := .int .u8 u2) rfl
                  · exact fun _ h => O_sidx rfl Tryd.underlying9 rfl rfl gk10 gl10 gd10 h
                  (try simp only [PT])
                  apply seq_op (V := .bool (decide (u2 < 97))) rfl
                  · exact fun _ h => O_bin rfl rfl rfl eqg_int r_lss h
                  (try simp only [PT])
                  apply seq_op (V := .bool (decide (u2 < 97))) rfl
                  · exact fun _ h => O_mv rfl rfl h
                  (try simp only [PT])
                  refine seq_opw (V := .string a0) ((wanted_f rfl rfl rfl).trans (congrArg not hg3)) ?_ ?_
                  · exact fun _ h => O_mv rfl rfl h
                  (try simp only [PT])
                  refine seq_opw (V := .int .i64 (k4 : Int)) ((wanted_f rfl rfl rfl).trans (congrArg not hg3)) ?_ ?_
                  · exact fun _ h => O_mv rfl rfl h
                  (try simp only [PT])
                  refine seq_opw (V := .int .u8 u2) ((wanted_f rfl rfl rfl).trans (congrArg not hg3)) ?_ ?_
                  · exact fun _ h => O_sidx rfl Tryd.underlying9 rfl rfl gk11 gl11 gd11 h
                  (try simp only [PT])
                  refine seq_opw (V := .bool (decide (u2 > 122))) ((wanted_f rfl rfl rfl).trans (congrArg not hg3)) ?_ ?_
                  · exact fun _ h => O_bin rfl rfl rfl eqg_int r_gtr h
                  (try simp only [PT])
                  apply seq_op (V := .bool (decide (u2 > 122))) rfl
                  · exact fun _ h => O_pickF rfl rfl hg3 rfl h
                  (try simp only [PT])
                  apply seq_op (V := .bool (decide (u2 > 122))) rfl
                  · exact fun _ h => O_mv rfl rfl h
                  (try simp only [PT])
                  refine seq_opw (V := .string a0) ((wanted_t rfl rfl rfl).trans hg4) ?_ ?_
                  · exact fun _ h => O_mv rfl rfl h
                  (try simp only [PT])
                  refine seq_opw (V := .int .i64 (k4 : Int)) ((wanted_t rfl rfl rfl).trans hg4) ?_ ?_
                  · exact fun _ h => O_mv rfl rfl h
                  (try simp only [PT])
                  refine seq_opw (V := .int .u8 u2) ((wanted_t rfl rfl rfl).trans hg4) ?_ ?_
                  · exact fun _ h => O_sidx rfl Tryd.underlying9 rfl rfl gk12 gl12 gd12 h
                  (try simp only [PT])
                  refine seq_opw (V := .bool (decide (u2 < 48))) ((wanted_t rfl rfl rfl).trans hg4) ?_ ?_
                  · exact fun _ h => O_bin rfl rfl rfl eqg_int r_lss h
                  (try simp only [PT])
                  refine seq_opw (V := .bool (decide (u2 < 48))) ((wanted_t rfl rfl rfl).trans hg4) ?_ ?_
                  · exact fun _ h => O_mv rfl rfl h
                  (try simp only [PT])
                  refine seq_skip ((wanted_f rfl rfl rfl).trans (congrArg not hg5)) ?_
                  (try simp only [PT])
                  refine seq_skip ((wanted_f rfl rfl rfl).trans (congrArg not hg5)) ?_
                  (try simp only [PT])
                  refine seq_skip ((wanted_f rfl rfl rfl).trans (congrArg not hg5)) ?_
                  (try simp only [PT])
                  refine seq_skip ((wanted_f rfl rfl rfl).trans (congrArg not hg5)) ?_
                  (try simp only [PT])
                  refine seq_opw (V := .bool true) ((wanted_t rfl rfl rfl).trans hg4) ?_ ?_
                  · exact fun _ h => O_pickT rfl rfl hg5 rfl h
                  (try simp only [PT])
                  apply seq_op (V := .bool true) rfl
                  · exact fun _ h => O_pickT rfl rfl hg4 rfl h
                  (try simp only [PT])
                  refine list_end ?_
                  refine then_norm ?_
                  refine wp_cond_true rfl ?_
                  refine wp_seq ?_
                  refine wp_region_lit ?_
                  apply seq_op (V := .bool false) rfl
                  · exact fun _ h => O_as rfl rfl h
                  (try simp only [PT])
                  refine list_end ?_
                  refine then_norm ?_
                  refine wp_ret ?_
                  refine block_ret ?_
                  refine then_ret ?_
                  refine then_ret ?_
                  refine block_ret ?_
                  refine then_ret ?_
                  have hq4 := Option.some.inj hq4
                  subst hq4
                  (try dsimp only at hm)
                  have hm := Option.some.inj hm
                  subst hm
                  exact ret1 rfl (rv_tmp rfl) rfl ⟨rfl, H⟩
                · replace hq4 := ifF hg5 hq4
                  obtain ⟨kk10, gk10, gl10, gd10⟩ := btI_some gx2
                  obtain ⟨kk11, gk11, gl11, gd11⟩ := btI_some gx2
                  obtain ⟨kk12, gk12, gl12, gd12⟩ := btI_some gx2
                  obtain ⟨kk13, gk13, gl13, gd13⟩ := btI_some gx2
                  refine wp_region_lit ?_
                  apply seq_op (V := .string a0) rfl
                  · exact fun _ h => O_mv rfl rfl h
                  (try simp only [PT])
                  apply seq_op (V := .int .i64 (k4 : Int)) rfl
                  · exact fun _ h => O_mv rfl rfl h
                  (try simp only [PT])
                  apply seq_op (V := .int .u8 u2) rfl
                  · exact fun _ h => O_sidx rfl Tryd.underlying9 rfl rfl gk10 gl10 gd10 h
                  (try simp only [PT])
                  apply seq_op (V := .bool (decide (u2 < 97))) rfl
                  · exact fun _ h => O_bin rfl rfl rfl eqg_int r_lss h
                  (try simp only [PT])
                  apply seq_op (V := .bool (decide (u2 < 97))) rfl
                  · exact fun _ h => O_mv rfl rfl h
                  (try simp only [PT])
                  refine seq_opw (V := .string a0) ((wanted_f rfl rfl rfl).trans (congrArg not hg3)) ?_ ?_
                  · exact fun _ h => O_mv rfl rfl h
                  (try simp only [PT])
                  refine seq_opw (V := .int .i64 (k4 : Int)) ((wanted_f rfl rfl rfl).trans (congrArg not hg3)) ?_ ?_
                  · exact fun _ h => O_mv rfl rfl h
                  (try simp only [PT])
                  refine seq_opw (V := .int .u8 u2) ((wanted_f rfl rfl rfl).trans (congrArg not hg3)) ?_ ?_
                  · exact fun _ h => O_sidx rfl Tryd.underlying9 rfl rfl gk11 gl11 gd11 h
                  (try simp only [PT])
                  refine seq_opw (V := .bool (decide (u2 > 122))) ((wanted_f rfl rfl rfl).trans (congrArg not hg3)) ?_ ?_
                  · exact fun _ h => O_bin rfl rfl rfl eqg_int r_gtr h
                  (try simp only [PT])
                  apply seq_op (V := .bool (decide (u2 > 122))) rfl
                  · exact fun _ h => O_pickF rfl rfl hg3 rfl h
                  (try simp only [PT])
                  apply seq_op (V := .bool (decide (u2 > 122))) rfl
                  · exact fun _ h => O_mv rfl rfl h
                  (try simp only [PT])
                  refine seq_opw (V := .string a0) ((wanted_t rfl rfl rfl).trans hg4) ?_ ?_
                  · exact fun _ h => O_mv rfl rfl h
                  (try simp only [PT])
                  refine seq_opw (V := .int .i64 (k4 : Int)) ((wanted_t rfl rfl rfl).trans hg4) ?_ ?_
                  · exact fun _ h => O_mv rfl rfl h
                  (try simp only [PT])
                  refine seq_opw (V := .int .u8 u2) ((wanted_t rfl rfl rfl).trans hg4) ?_ ?_
                  · exact fun _ h => O_sidx rfl Tryd.underlying9 rfl rfl gk12 gl12 gd12 h
                  (try simp only [PT])
                  refine seq_opw (V := .bool (decide (u2 < 48))) ((wanted_t rfl rfl rfl).trans hg4) ?_ ?_
                  · exact fun _ h => O_bin rfl rfl rfl eqg_int r_lss h
                  (try simp only [PT])
                  refine seq_opw (V := .bool (decide (u2 < 48))) ((wanted_t rfl rfl rfl).trans hg4) ?_ ?_
                  · exact fun _ h => O_mv rfl rfl h
                  (try simp only [PT])
                  refine seq_opw (V := .string a0) ((wanted_f rfl rfl rfl).trans (congrArg not hg5)) ?_ ?_
                  · exact fun _ h => O_mv rfl rfl h
                  (try simp only [PT])
                  refine seq_opw (V := .int .i64 (k4 : Int)) ((wanted_f rfl rfl rfl).trans (congrArg not hg5)) ?_ ?_
                  · exact fun _ h => O_mv rfl rfl h
                  (try simp only [PT])
                  refine seq_opw (V := .int .u8 u2) ((wanted_f rfl rfl rfl).trans (congrArg not hg5)) ?_ ?_
                  · exact fun _ h => O_sidx rfl Tryd.underlying9 rfl rfl gk13 gl13 gd13 h
                  (try simp only [PT])
                  refine seq_opw (V := .bool (decide (u2 > 57))) ((wanted_f rfl rfl rfl).trans (congrArg not hg5)) ?_ ?_
                  · exact fun _ h => O_bin rfl rfl rfl eqg_int r_gtr h
                  (try simp only [PT])
                  refine seq_opw (V := .bool (decide (u2 > 57))) ((wanted_t rfl rfl rfl).trans hg4) ?_ ?_
                  · exact fun _ h => O_pickF rfl rfl hg5 rfl h
                  (try simp only [PT])
                  apply seq_op (V := .bool (decide (u2 > 57))) rfl
                  · exact fun _ h => O_pickT rfl rfl hg4 rfl h
                  (try simp only [PT])
                  refine list_end ?_
                  refine then_norm ?_
                  refine wp_cond_split rfl (fun hc => ?_) (fun hc => ?_)
                  · have hc3 := hc
                    clear hc
                    replace hq4 := ifT hc3 hq4
                    refine wp_seq ?_
                    refine wp_region_lit ?_
                    apply seq_op (V := .bool false) rfl
                    · exact fun _ h => O_as rfl rfl h
                    (try simp only [PT])
                    refine list_end ?_
                    refine then_norm ?_
                    refine wp_ret ?_
                    refine block_ret ?_
                    refine then_ret ?_
                    refine then_ret ?_
                    refine block_ret ?_
                    refine then_ret ?_
                    have hq4 := Option.some.inj hq4
                    subst hq4
                    (try dsimp only at hm)
                    have hm := Option.some.inj hm
                    subst hm
                    exact ret1 rfl (rv_tmp rfl) rfl ⟨rfl, H⟩
                  · have hc3 := hc
                    clear hc
                    replace hq4 := ifF hc3 hq4
                    refine wp_skip ?_
                    refine block_norm ?_
                    refine then_norm ?_
                    refine wp_region_lit ?_
                    apply seq_op (V := .int .i64 (IntKind.i64.wrap ((k4 : Int) + 1))) rfl
                    · exact fun _ h => O_bin rfl rfl rfl eqg_int r_add h
                    (try simp only [PT])
                    apply seq_op (V := .int .i64 (IntKind.i64.wrap ((k4 : Int) + 1))) rfl
                    · exact fun _ h => O_mv rfl rfl h
                    (try simp only [PT])
                    refine list_end ?_
                    refine then_norm ?_
                    refine ⟨⟨⟨rfl, rfl, rfl, rfl, rfl, rfl, rfl, rfl, rfl, rfl, rfl, rfl, rfl, rfl, rfl, rfl, rfl, rfl, rfl, rfl, rfl, rfl, rfl⟩, rfl⟩, ⟨k4 + 1, r4', hd4'', wrap_succ hl4 hn4, hq4, H⟩, ?_⟩
                    exact meas_succ hl4 hn4
              · replace hq4 := ifF hg4 hq4
                obtain ⟨kk7, gk7, gl7, gd7⟩ := btI_some gx2
                obtain ⟨kk8, gk8, gl8, gd8⟩ := btI_some gx2
                refine wp_region_lit ?_
                apply seq_op (V := .string a0) rfl
                · exact fun _ h => O_mv rfl rfl h
                (try simp only [PT])
                apply seq_op (V := .int .i64 (k4 : Int)) rfl
                · exact fun _ h => O_mv rfl rfl h
                (try simp only [PT])
                apply seq_op (V := .int .u8 u2) rfl
                · exact fun _ h => O_sidx rfl Tryd.underlying9 rfl rfl gk7 gl7 gd7 h
                (try simp only [PT])
                apply seq_op (V := .bool (decide (u2 < 97))) rfl
                · exact fun _ h => O_bin rfl rfl rfl eqg_int r_lss h
                (try simp only [PT])
                apply seq_op (V := .bool (decide (u2 < 97))) rfl
                · exact fun _ h => O_mv rfl rfl h
                (try simp only [PT])
                refine seq_opw (V := .string a0) ((wanted_f rfl rfl rfl).trans (congrArg not hg3)) ?_ ?_
                · exact fun _ h => O_mv rfl rfl h
                (try simp only [PT])
                refine seq_opw (V := .int .i64 (k4 : Int)) ((wanted_f rfl rfl rfl).trans (congrArg not hg3)) ?_ ?_
                · exact fun _ h => O_mv rfl rfl h
                (try simp only [PT])
                refine seq_opw (V := .int .u8 u2) ((wanted_f rfl rfl rfl).trans (congrArg not hg3)) ?_ ?_
                · exact fun _ h => O_sidx rfl Tryd.underlying9 rfl rfl gk8 gl8 gd8 h
                (try simp only [PT])
                refine seq_opw (V := .bool (decide (u2 > 122))) ((wanted_f rfl rfl rfl).trans (congrArg not hg3)) ?_ ?_
                · exact fun _ h => O_bin rfl rfl rfl eqg_int r_gtr h
                (try simp only [PT])
                apply seq_op (V := .bool (decide (u2 > 122))) rfl
                · exact fun _ h => O_pickF rfl rfl hg3 rfl h
                (try simp only [PT])
                apply seq_op (V := .bool (decide (u2 > 122))) rfl
                · exact fun _ h => O_mv rfl rfl h
                (try simp only [PT])
                refine seq_skip ((wanted_t rfl rfl rfl).trans hg4) ?_
                (try simp only [PT])
                refine seq_skip ((wanted_t rfl rfl rfl).trans hg4) ?_
                (try simp only [PT])
                refine seq_skip ((wanted_t rfl rfl rfl).trans hg4) ?_
                (try simp only [PT])
                refine seq_skip ((wanted_t rfl rfl rfl).trans hg4) ?_
                (try simp only [PT])
                refine seq_skip ((wanted_t rfl rfl rfl).trans hg4) ?_
                (try simp only [PT])
                refine seq_skip (wanted_u rfl rfl rfl) ?_
                (try simp only [PT])
                refine seq_skip (wanted_u rfl rfl rfl) ?_
                (try simp only [PT])
                refine seq_skip (wanted_u rfl rfl rfl) ?_
                (try simp only [PT])
                refine seq_skip (wanted_u rfl rfl rfl) ?_
                (try simp only [PT])
                refine seq_skip ((wanted_t rfl rfl rfl).trans hg4) ?_
                (try simp only [PT])
                apply seq_op (V := .bool false) rfl
                · exact fun _ h => O_pickF rfl rfl hg4 rfl h
                (try simp only [PT])
                refine list_end ?_
                refine then_norm ?_
                refine wp_cond_false rfl ?_
                refine wp_skip ?_
                refine block_norm ?_
                refine then_norm ?_
                refine wp_region_lit ?_
                apply seq_op (V := .int .i64 (IntKind.i64.wrap ((k4 : Int) + 1))) rfl
                · exact fun _ h => O_bin rfl rfl rfl eqg_int r_add h
                (try simp only [PT])
                apply seq_op (V := .int .i64 (IntKind.i64.wrap ((k4 : Int) + 1))) rfl
                · exact fun _ h => O_mv rfl rfl h
                (try simp only [PT])
                refine list_end ?_
                refine then_norm ?_
                refine ⟨⟨⟨rfl, rfl, rfl, rfl, rfl, rfl, rfl, rfl, rfl, rfl, rfl, rfl, rfl, rfl, rfl, rfl, rfl, rfl, rfl, rfl, rfl, rfl, rfl⟩, rfl⟩, ⟨k4 + 1, r4', hd4'', wrap_succ hl4 hn4, hq4, H⟩, ?_⟩
                exact meas_succ hl4 hn4
          · have hc2 := hc
            clear hc
            obtain rfl := irng_f hd4 hc2
            rw [histtext_isKey_l4] at hq4
            refine wp_exit ?_
            refine then_exit ?_
            refine then_exit ?_
            have hq4 := Option.some.inj hq4
            subst hq4
            (try dsimp only at hm)
            refine block_exit ?_
            refine then_norm ?_
            refine wp_seq ?_
            refine wp_region_lit ?_
            apply seq_op (V := .bool true) rfl
            · exact fun _ h => O_as rfl rfl h
            (try simp only [PT])
            refine list_end ?_
            refine then_norm ?_
            refine wp_ret ?_
            have hm := Option.some.inj hm
            subst hm
            exact ret1 rfl (rv_tmp rfl) rfl ⟨rfl, H⟩
def histtext_CanOp_f (a0 : Op') : Option Bool := (histtext_isKey_f a0.key).bind fun u1 => if (!u1) = true then (some false) else (if (a0.kind == 1) = true then (some ((((a0.list.length : Int) == 0) && (!a0.has)) && (!a0.isNil))) else (if (a0.kind == 3) = true then (some ((((a0.list.length : Int) == 0) && (!a0.has)) && (!a0.isNil))) else (if (a0.kind == 2) = true then (some ((((a0.value == 0) && (!a0.isNil)) && (decide ((a0.list.length : Int) ≤ 40))) && (a0.has || ((a0.list.length : Int) == 0)))) else (if (a0.kind == 4) = true then (some ((((a0.list.length : Int) == 0) && (a0.has || (!a0.isNil))) && ((a0.value == 0) || (a0.has && (!a0.isNil))))) else (some false)))))

set_option maxHeartbeats 4000000 in
theorem histtext_CanOp_w {E : World} {s : SH} {L : List HP} {w : World} {a0 : Op'} {A_p0_list : Option Addr} {c_p0_list : Nat} (h_p0_list : kI.Sl s (.slice A_p0_list a0.list.length c_p0_list) a0.list) (hz_p0_key : a0.key.size ≤ 140737488351232) {R : Bool} (hm : histtext_CanOp_f a0 = some R) (H : Holds E s (L) w) :
    Calls Tryd.prog 150 #[.agg #[.int .i64 a0.kind, .string a0.key, .int .i64 a0.value, .slice A_p0_list a0.list.length c_p0_list, .bool a0.has, .bool a0.isNil]] w fun e w' => e = .returned (.bool R) ∧ Holds E s (L) w' := by
  unfold histtext_CanOp_f at hm
  go_enter Tryd.func150, Tryd.ntmps150
  refine wp_seq ?_
  refine wp_region_lit ?_
  refine OpG.list rfl ?_; refine B_x 108 _ rfl (v := .agg #[.int .i64 a0.kind, .string a0.key, .int .i64 a0.value, .slice A_p0_list a0.list.length c_p0_list, .bool a0.has, .bool a0.isNil]) rfl H ?_; clear H; intro b1 w1 H; (try simp only [Value.cells] at H)
  (try simp only [PT])
  apply seq_op (V := .bool false) rfl
  · exact fun _ h => O_as rfl rfl h
  (try simp only [PT])
  refine list_end ?_
  refine then_norm ?_
  refine wp_seq ?_
  refine wp_block ?_
  refine wp_seq ?_
  obtain ⟨u1, gx1, hm⟩ := bs hm
  refine wp_region_lit ?_
  apply seq_op (V := .pointer (some ⟨b1, 1, none⟩)) rfl
  · exact fun _ h => O_fld rfl Tryd.underlying108 rfl (Tryd.sizeOf9 _) rfl h
  (try simp only [PT])
  apply seq_op (V := .string a0.key) rfl
  · exact fun _ h => L_1 0 _ _ rfl (Tryd.isAgg9 _) rfl H rfl rfl h
  (try simp only [PT])
  refine seq_call rfl (fun Φ hΦ => by refine O_call1 rfl Tryd.func172 rfl rfl rfl hΦ) (histtext_isKey_w (a0 := a0.key) (hz_p0 := hz_p0_key) (hm := gx1) (H := H)) ?_
  clear H
  rintro e w1 ⟨rfl, H⟩; refine ⟨_, rfl, ?_⟩
  (try simp only [PT])
  apply seq_op (V := .bool (!u1)) rfl
  · exact fun _ h => O_not rfl rfl h
  (try simp only [PT])
  apply seq_op (V := .bool (!u1)) rfl
  · exact fun _ h => O_as rfl rfl h
  (try simp only [PT])
  refine list_end ?_
  refine then_norm ?_
  refine wp_cond_split rfl (fun hc => ?_) (fun hc => ?_)
  · have hc1 := hc
    clear hc
    replace hm := ifT hc1 hm
    refine wp_seq ?_
    refine wp_region_lit ?_
    apply seq_op (V := .bool false) rfl
    · exact fun _ h => O_as rfl rfl h
    (try simp only [PT])
    refine list_end ?_
    refine then_norm ?_
    refine wp_ret ?_
    refine block_ret ?_
    refine then_ret ?_
    have hm := Option.some.inj hm
    subst hm
    replace H := H.dropAt 0 rfl; simp only [List.eraseIdx_cons_succ, List.eraseIdx_cons_zero] at H
    exact ret1 rfl (rv_tmp rfl) rfl ⟨rfl, H⟩
  · have hc1 := hc
    clear hc
    replace hm := ifF hc1 hm
    refine wp_seq ?_
    refine wp_seq ?_
    refine wp_region_lit ?_
    apply seq_op (V := .pointer (some ⟨b1, 0, none⟩)) rfl
    · exact fun _ h => O_fld rfl Tryd.underlying108 rfl (Tryd.sizeOf3 _) rfl h
    (try simp only [PT])
    apply seq_op (V := .int .i64 a0.kind) rfl
    · exact fun _ h => L_1 0 _ _ rfl (Tryd.isAgg3 _) rfl H rfl rfl h
    (try simp only [PT])
    apply seq_op (V := .bool (a0.kind == 1)) rfl
    · exact fun _ h => O_bin rfl rfl rfl eqg_int r_eql h
    (try simp only [PT])
    apply seq_op (V := .bool (a0.kind == 1)) rfl
    · exact fun _ h => O_as rfl rfl h
    (try simp only [PT])
    refine list_end ?_
    refine then_norm ?_
    refine wp_cond_split rfl (fun hc => ?_) (fun hc => ?_)
    · have hc2 := hc
      clear hc
      replace hm := ifT hc2 hm
      refine wp_skip ?_
      refine then_norm ?_
      refine wp_cond_true (congrArg Value.bool hc2) ?_
      refine wp_seq ?_
      refine wp_region_lit ?_
      apply seq_op (V := .pointer (some ⟨b1, 3, none⟩)) rfl
      · exact fun _ h => O_fld rfl Tryd.underlying108 rfl (Tryd.sizeOf27 _) rfl h
      (try simp only [PT])
      apply seq_op (V := .slice A_p0_list a0.list.length c_p0_list) rfl
      · exact fun _ h => L_1 0 _ _ rfl (Tryd.isAgg27 _) rfl H rfl rfl h
      (try simp only [PT])
      apply seq_op (V := .int .i64 (a0.list.length : Int)) rfl
      · exact fun _ h => O_len rfl Tryd.underlying27 rfl h
      (try simp only [PT])
      apply seq_op (V := .bool ((a0.list.length : Int) == 0)) rfl
      · exact fun _ h => O_bin rfl rfl rfl eqg_int r_eql h
      (try simp only [PT])
      apply seq_op (V := .bool ((a0.list.length : Int) == 0)) rfl
      · exact fun _ h => O_mv rfl rfl h
      (try simp only [PT])
      refine seq_opg (c := ((a0.list.length : Int) == 0)) (V := .pointer (some ⟨b1, 4, none⟩)) (by first | exact wanted_t rfl rfl rfl | exact wanted_vt rfl rfl rfl) ?_ ?_
      · intro hc Φ hΦ; refine O_fld rfl Tryd.underlying108 rfl (Tryd.sizeOf4 _) rfl ?_; exact hΦ
      (try simp only [PT])
      refine seq_opg (c := ((a0.list.length : Int) == 0)) (V := .bool a0.has) (by first | exact wanted_t rfl rfl rfl | exact wanted_vt rfl rfl rfl) ?_ ?_
      · intro hc Φ hΦ; (repeat (first | rw [vg_of hc] | rw [vg_of (and_l hc)] | rw [vg_of (and_l (and_l hc))] | rw [vg_of (and_l (and_l (and_l hc)))] | rw [vg_and hc])); refine L_1 0 _ _ rfl (Tryd.isAgg4 _) rfl H rfl rfl ?_; exact hΦ
      (try simp only [PT])
      refine seq_opg (c := ((a0.list.length : Int) == 0)) (V := .bool (!a0.has)) (by first | exact wanted_t rfl rfl rfl | exact wanted_vt rfl rfl rfl) ?_ ?_
      · intro hc Φ hΦ; (repeat (first | rw [vg_of hc] | rw [vg_of (and_l hc)] | rw [vg_of (and_l (and_l hc))] | rw [vg_of (and_l (and_l (and_l hc)))] | rw [vg_and hc])); refine O_not rfl rfl ?_; exact hΦ
      (try simp only [PT])
      apply seq_op (V := .bool (((a0.list.length : Int) == 0) && (!a0.has))) rfl
      · exact fun _ h => G_and _ _ _ rfl rfl rfl rfl h
      (try simp only [PT])
      apply seq_op (V := .bool (((a0.list.length : Int) == 0) && (!a0.has))) rfl
      · exact fun _ h => O_mv rfl rfl h
      (try simp only [PT])
      refine seq_opg (c := (((a0.list.length : Int) == 0) && (!a0.has))) (V := .pointer (some ⟨b1, 5, none⟩)) (by first | exact wanted_t rfl rfl rfl | exact wanted_vt rfl rfl rfl) ?_ ?_
      · intro hc Φ hΦ; refine O_fld rfl Tryd.underlying108 rfl (Tryd.sizeOf4 _) rfl ?_; exact hΦ
      (try simp only [PT])
      refine seq_opg (c := (((a0.list.length : Int) == 0) && (!a0.has))) (V := .bool a0.isNil) (by first | exact wanted_t rfl rfl rfl | exact wanted_vt rfl rfl rfl) ?_ ?_
      · intro hc Φ hΦ; (repeat (first | rw [vg_of hc] | rw [vg_of (and_l hc)] | rw [vg_of (and_l (and_l hc))] | rw [vg_of (and_l (and_l (and_l hc)))] | rw [vg_and hc])); refine L_1 0 _ _ rfl (Tryd.isAgg4 _) rfl H rfl rfl ?_; exact hΦ
      (try simp only [PT])
      refine seq_opg (c := (((a0.list.length : Int) == 0) && (!a0.has))) (V := .bool (!a0.isNil)) (by first | exact wanted_t rfl rfl rfl | exact wanted_vt rfl rfl rfl) ?_ ?_
      · intro hc Φ hΦ; (repeat (first | rw [vg_of hc] | rw [vg_of (and_l hc)] | rw [vg_of (and_l (and_l hc))] | rw [vg_of (and_l (and_l (and_l hc)))] | rw [vg_and hc])); refine O_not rfl rfl ?_; exact hΦ
      (try simp only [PT])
      apply seq_op (V := .bool ((((a0.list.length : Int) == 0) && (!a0.has)) && (!a0.isNil))) rfl
      · exact fun _ h => G_and _ _ _ rfl rfl rfl rfl h
      (try simp only [PT])
      apply seq_op (V := .bool ((((a0.list.length : Int) == 0) && (!a0.has)) && (!a0.isNil))) rfl
      · exact fun _ h => O_as rfl rfl h
      (try simp only [PT])
      refine list_end ?_
      refine then_norm ?_
      refine wp_ret ?_
      refine block_ret ?_
      refine then_ret ?_
      have hm := Option.some.inj hm
      subst hm
      replace H := H.dropAt 0 rfl; simp only [List.eraseIdx_cons_succ, List.eraseIdx_cons_zero] at H
      exact ret1 rfl (rv_tmp rfl) rfl ⟨rfl, H⟩
    · have hc2 := hc
      clear hc
      replace hm := ifF hc2 hm
      refine wp_region_lit ?_
      apply seq_op (V := .pointer (some ⟨b1, 0, none⟩)) rfl
      · exact fun _ h => O_fld rfl Tryd.underlying108 rfl (Tryd.sizeOf3 _) rfl h
      (try simp only [PT])
      apply seq_op (V := .int .i64 a0.kind) rfl
      · exact fun _ h => L_1 0 _ _ rfl (Tryd.isAgg3 _) rfl H rfl rfl h
      (try simp only [PT])
      apply seq_op (V := .bool (a0.kind == 3)) rfl
      · exact fun _ h => O_bin rfl rfl rfl eqg_int r_eql h
      (try simp only [PT])
      apply seq_op (V := .bool (a0.kind == 3)) rfl
      · exact fun _ h => O_as rfl rfl h
      (try simp only [PT])
      refine list_end ?_
      refine then_norm ?_
      refine wp_cond_split rfl (fun hc => ?_) (fun hc => ?_)
      · have hc3 := hc
        clear hc
        replace hm := ifT hc3 hm
        refine wp_seq ?_
        refine wp_region_lit ?_
        apply seq_op (V := .pointer (some ⟨b1, 3, none⟩)) rfl
        · exact fun _ h => O_fld rfl Tryd.underlying108 rfl (Tryd.sizeOf27 _) rfl h
        (try simp only [PT])
        apply seq_op (V := .slice A_p0_list a0.list.length c_p0_list) rfl
        · exact fun _ h => L_1 0 _ _ rfl (Tryd.isAgg27 _) rfl H rfl rfl h
        (try simp only [PT])
        apply seq_op (V := .int .i64 (a0.list.length : Int)) rfl
        · exact fun _ h => O_len rfl Tryd.underlying27 rfl h
        (try simp only [PT])
        apply seq_op (V := .bool ((a0.list.length : Int) == 0)) rfl
        · exact fun _ h => O_bin rfl rfl rfl eqg_int r_eql h
        (try simp only [PT])
        apply seq_op (V := .bool ((a0.list.length : Int) == 0)) rfl
        · exact fun _ h => O_mv rfl rfl h
        (try simp only [PT])
        refine seq_opg (c := ((a0.list.length : Int) == 0)) (V := .pointer (some ⟨b1, 4, none⟩)) (by first | exact wanted_t rfl rfl rfl | exact wanted_vt rfl rfl rfl) ?_ ?_
        · intro hc Φ hΦ; refine O_fld rfl Tryd.underlying108 rfl (Tryd.sizeOf4 _) rfl ?_; exact hΦ
        (try simp only [PT])
        refine seq_opg (c := ((a0.list.length : Int) == 0)) (V := .bool a0.has) (by first | exact wanted_t rfl rfl rfl | exact wanted_vt rfl rfl rfl) ?_ ?_
        · intro hc Φ hΦ; (repeat (first | rw [vg_of hc] | rw [vg_of (and_l hc)] | rw [vg_of (and_l (and_l hc))] | rw [vg_of (and_l (and_l (and_l hc)))] | rw [vg_and hc])); refine L_1 0 _ _ rfl (Tryd.isAgg4 _) rfl H rfl rfl ?_; exact hΦ
        (try simp only [PT])
        refine seq_opg (c := ((a0.list.length : Int) == 0)) (V := .bool (!a0.has)) (by first | exact wanted_t rfl rfl rfl | exact wanted_vt rfl rfl rfl) ?_ ?_
        · intro hc Φ hΦ; (repeat (first | rw [vg_of hc] | rw [vg_of (and_l hc)] | rw [vg_of (and_l (and_l hc))] | rw [vg_of (and_l (and_l (and_l hc)))] | rw [vg_and hc])); refine O_not rfl rfl ?_; exact hΦ
        (try simp only [PT])
        apply seq_op (V := .bool (((a0.list.length : Int) == 0) && (!a0.has))) rfl
        · exact fun _ h => G_and _ _ _ rfl rfl rfl rfl h
        (try simp only [PT])
        apply seq_op (V := .bool (((a0.list.length : Int) == 0) && (!a0.has))) rfl
        · exact fun _ h => O_mv rfl rfl h
        (try simp only [PT])
        refine seq_opg (c := (((a0.list.length : Int) == 0) && (!a0.has))) (V := .pointer (some ⟨b1, 5, none⟩)) (by first | exact wanted_t rfl rfl rfl | exact wanted_vt rfl rfl rfl) ?_ ?_
        · intro hc Φ hΦ; refine O_fld rfl Tryd.underlying108 rfl (Tryd.sizeOf4 _) rfl ?_; exact hΦ
        (try simp only [PT])
        refine seq_opg (c := (((a0.list.length : Int) == 0) && (!a0.has))) (V := .bool a0.isNil) (by first | exact wanted_t rfl rfl rfl | exact wanted_vt rfl rfl rfl) ?_ ?_
        · intro hc Φ hΦ; (repeat (first | rw [vg_of hc] | rw [vg_of (and_l hc)] | rw [vg_of (and_l (and_l hc))] | rw [vg_of (and_l (and_l (and_l hc)))] | rw [vg_and hc])); refine L_1 0 _ _ rfl (Tryd.isAgg4 _) rfl H rfl rfl ?_; exact hΦ
        (try simp only [PT])
        refine seq_opg (c := (((a0.list.length : Int) == 0) && (!a0.has))) (V := .bool (!a0.isNil)) (by first | exact wanted_t rfl rfl rfl | exact wanted_vt rfl rfl rfl) ?_ ?_
        · intro hc Φ hΦ; (repeat (first | rw [vg_of hc] | rw [vg_of (and_l hc)] | rw [vg_of (and_l (and_l hc))] | rw [vg_of (and_l (and_l (and_l hc)))] | rw [vg_and hc])); refine O_not rfl rfl ?_; exact hΦ
        (try simp only [PT])
        apply seq_op (V := .bool ((((a0.list.length : Int) == 0) && (!a0.has)) && (!a0.isNil))) rfl
        · exact fun _ h => G_and _ _ _ rfl rfl rfl rfl h
        (try simp only [PT])
        apply seq_op (V := .bool ((((a0.list.length : Int) == 0) && (!a0.has)) && (!a0.isNil))) rfl
        · exact fun _ h => O_as rfl rfl h
        (try simp only [PT])
        refine list_end ?_
        refine then_norm ?_
        refine wp_ret ?_
        refine block_ret ?_
        refine then_ret ?_
        have hm := Option.some.inj hm
        subst hm
        replace H := H.dropAt 0 rfl; simp only [List.eraseIdx_cons_succ, List.eraseIdx_cons_zero] at H
        exact ret1 rfl (rv_tmp rfl) rfl ⟨rfl, H⟩
      · have hc3 := hc
        clear hc
        replace hm := ifF hc3 hm
        refine wp_seq ?_
        refine wp_region_lit ?_
        apply seq_op (V := .pointer (some ⟨b1, 0, none⟩)) rfl
        · exact fun _ h => O_fld rfl Tryd.underlying108 rfl (Tryd.sizeOf3 _) rfl h
        (try simp only [PT])
        apply seq_op (V := .int .i64 a0.kind) rfl
        · exact fun _ h => L_1 0 _ _ rfl (Tryd.isAgg3 _) rfl H rfl rfl h
        (try simp only [PT])
        apply seq_op (V := .bool (a0.kind == 2)) rfl
        · exact fun _ h => O_bin rfl rfl rfl eqg_int r_eql h
        (try simp only [PT])
        apply seq_op (V := .bool (a0.kind == 2)) rfl
        · exact fun _ h => O_as rfl rfl h
        (try simp only [PT])
        refine list_end ?_
        refine then_norm ?_
        refine wp_cond_split rfl (fun hc => ?_) (fun hc => ?_)
        · have hc4 := hc
          clear hc
          replace hm := ifT hc4 hm
          refine wp_seq ?_
          refine wp_region_lit ?_
          apply seq_op (V := .pointer (some ⟨b1, 2, none⟩)) rfl
          · exact fun _ h => O_fld rfl Tryd.underlying108 rfl (Tryd.sizeOf3 _) rfl h
          (try simp only [PT])
          apply seq_op (V := .int .i64 a0.value) rfl
          · exact fun _ h => L_1 0 _ _ rfl (Tryd.isAgg3 _) rfl H rfl rfl h
          (try simp only [PT])
          apply seq_op (V := .bool (a0.value == 0)) rfl
          · exact fun _ h => O_bin rfl rfl rfl eqg_int r_eql h
          (try simp only [PT])
          apply seq_op (V := .bool (a0.value == 0)) rfl
          · exact fun _ h => O_mv rfl rfl h
          (try simp only [PT])
          refine seq_opg (c := (a0.value == 0)) (V := .pointer (some ⟨b1, 5, none⟩)) (by first | exact wanted_t rfl rfl rfl | exact wanted_vt rfl rfl rfl) ?_ ?_
          · intro hc Φ hΦ; refine O_fld rfl Tryd.underlying108 rfl (Tryd.sizeOf4 _) rfl ?_; exact hΦ
          (try simp only [PT])
          refine seq_opg (c := (a0.value == 0)) (V := .bool a0.isNil) (by first | exact wanted_t rfl rfl rfl | exact wanted_vt rfl rfl rfl) ?_ ?_
          · intro hc Φ hΦ; (repeat (first | rw [vg_of hc] | rw [vg_of (and_l hc)] | rw [vg_of (and_l (and_l hc))] | rw [vg_of (and_l (and_l (and_l hc)))] | rw [vg_and hc])); refine L_1 0 _ _ rfl (Tryd.isAgg4 _) rfl H rfl rfl ?_; exact hΦ
          (try simp only [PT])
          refine seq_opg (c := (a0.value == 0)) (V := .bool (!a0.isNil)) (by first | exact wanted_t rfl rfl rfl | exact wanted_vt rfl rfl rfl) ?_ ?_
          · intro hc Φ hΦ; (repeat (first | rw [vg_of hc] | rw [vg_of (and_l hc)] | rw [vg_of (and_l (and_l hc))] | rw [vg_of (and_l (and_l (and_l hc)))] | rw [vg_and hc])); refine O_not rfl rfl ?_; exact hΦ
          (try simp only [PT])
          apply seq_op (V := .bool ((a0.value == 0) && (!a0.isNil))) rfl
          · exact fun _ h => G_and _ _ _ rfl rfl rfl rfl h
          (try simp only [PT])
          apply seq_op (V := .bool ((a0.value == 0) && (!a0.isNil))) rfl
          · exact fun _ h => O_mv rfl rfl h
          (try simp only [PT])
          refine seq_opg (c := ((a0.value == 0) && (!a0.isNil))) (V := .pointer (some ⟨b1, 3, none⟩)) (by first | exact wanted_t rfl rfl rfl | exact wanted_vt rfl rfl rfl) ?_ ?_
          · intro hc Φ hΦ; refine O_fld rfl Tryd.underlying108 rfl (Tryd.sizeOf27 _) rfl ?_; exact hΦ
          (try simp only [PT])
          refine seq_opg (c := ((a0.value == 0) && (!a0.isNil))) (V := .slice A_p0_list a0.list.length c_p0_list) (by first | exact wanted_t rfl rfl rfl | exact wanted_vt rfl rfl rfl) ?_ ?_
          · intro hc Φ hΦ; (repeat (first | rw [vg_of hc] | rw [vg_of (and_l hc)] | rw [vg_of (and_l (and_l hc))] | rw [vg_of (and_l (and_l (and_l hc)))] | rw [vg_and hc])); refine L_1 0 _ _ rfl (Tryd.isAgg27 _) rfl H rfl rfl ?_; exact hΦ
          (try simp only [PT])
          refine seq_opg (c := ((a0.value == 0) && (!a0.isNil))) (V := .int .i64 (a0.list.length : Int)) (by first | exact wanted_t rfl rfl rfl | exact wanted_vt rfl rfl rfl) ?_ ?_
          · intro hc Φ hΦ; (repeat (first | rw [vg_of hc] | rw [vg_of (and_l hc)] | rw [vg_of (and_l (and_l hc))] | rw [vg_of (and_l (and_l (and_l hc)))] | rw [vg_and hc])); refine O_len rfl Tryd.underlying27 rfl ?_; exact hΦ
          (try simp only [PT])
          refine seq_opg (c := ((a0.value == 0) && (!a0.isNil))) (V := .bool (decide ((a0.list.length : Int) ≤ 40))) (by first | exact wanted_t rfl rfl rfl | exact wanted_vt rfl rfl rfl) ?_ ?_
          · intro hc Φ hΦ; (repeat (first | rw [vg_of hc] | rw [vg_of (and_l hc)] | rw [vg_of (and_l (and_l hc))] | rw [vg_of (and_l (and_l (and_l hc)))] | rw [vg_and hc])); refine O_bin rfl rfl rfl eqg_int r_leq ?_; exact hΦ
          (try simp only [PT])
          apply seq_op (V := .bool (((a0.value == 0) && (!a0.isNil)) && (decide ((a0.list.length : Int) ≤ 40)))) rfl
          · exact fun _ h => G_and _ _ _ rfl rfl rfl rfl h
          (try simp only [PT])
          apply seq_op (V := .bool (((a0.value == 0) && (!a0.isNil)) && (decide ((a0.list.length : Int) ≤ 40)))) rfl
          · exact fun _ h => O_mv rfl rfl h
          (try simp only [PT])
          refine seq_opg (c := (((a0.value == 0) && (!a0.isNil)) && (decide ((a0.list.length : Int) ≤ 40)))) (V := .pointer (some ⟨b1, 4, none⟩)) (by first | exact wanted_t rfl rfl rfl | exact wanted_vt rfl rfl rfl) ?_ ?_
          · intro hc Φ hΦ; refine O_fld rfl Tryd.underlying108 rfl (Tryd.sizeOf4 _) rfl ?_; exact hΦ
          (try simp only [PT])
          refine seq_opg (c := (((a0.value == 0) && (!a0.isNil)) && (decide ((a0.list.length : Int) ≤ 40)))) (V := .bool a0.has) (by first | exact wanted_t rfl rfl rfl | exact wanted_vt rfl rfl rfl) ?_ ?_
          · intro hc Φ hΦ; (repeat (first | rw [vg_of hc] | rw [vg_of (and_l hc)] | rw [vg_of (and_l (and_l hc))] | rw [vg_of (and_l (and_l (and_l hc)))] | rw [vg_and hc])); refine L_1 0 _ _ rfl (Tryd.isAgg4 _) rfl H rfl rfl ?_; exact hΦ
          (try simp only [PT])
          refine seq_opg (c := (((a0.value == 0) && (!a0.isNil)) && (decide ((a0.list.length : Int) ≤ 40)))) (V := .bool a0.has) (by first | exact wanted_t rfl rfl rfl | exact wanted_vt rfl rfl rfl) ?_ ?_
          · intro hc Φ hΦ; (repeat (first | rw [vg_of hc] | rw [vg_of (and_l hc)] | rw [vg_of (and_l (and_l hc))] | rw [vg_of (and_l (and_l (and_l hc)))] | rw [vg_and hc])); refine O_mv rfl rfl ?_; exact hΦ
          (try simp only [PT])
          refine seq_opg (c := ((((a0.value == 0) && (!a0.isNil)) && (decide ((a0.list.length : Int) ≤ 40))) && !a0.has)) (V := .pointer (some ⟨b1, 3, none⟩)) (by first | exact wanted_f rfl rfl rfl | exact wanted_vf rfl rfl rfl) ?_ ?_
          · intro hc Φ hΦ; refine O_fld rfl Tryd.underlying108 rfl (Tryd.sizeOf27 _) rfl ?_; exact hΦ
          (try simp only [PT])
          refine seq_opg (c := ((((a0.value == 0) && (!a0.isNil)) && (decide ((a0.list.length : Int) ≤ 40))) && !a0.has)) (V := .slice A_p0_list a0.list.length c_p0_list) (by first | exact wanted_f rfl rfl rfl | exact wanted_vf rfl rfl rfl) ?_ ?_
          · intro hc Φ hΦ; (repeat (first | rw [vg_of hc] | rw [vg_of (and_l hc)] | rw [vg_of (and_l (and_l hc))] | rw [vg_of (and_l (and_l (and_l hc)))] | rw [vg_and hc])); refine L_1 0 _ _ rfl (Tryd.isAgg27 _) rfl H rfl rfl ?_; exact hΦ
          (try simp only [PT])
          refine seq_opg (c := ((((a0.value == 0) && (!a0.isNil)) && (decide ((a0.list.length : Int) ≤ 40))) && !a0.has)) (V := .int .i64 (a0.list.length : Int)) (by first | exact wanted_f rfl rfl rfl | exact wanted_vf rfl rfl rfl) ?_ ?_
          · intro hc Φ hΦ; (repeat (first | rw [vg_of hc] | rw [vg_of (and_l hc)] | rw [vg_of (and_l (and_l hc))] | rw [vg_of (and_l (and_l (and_l hc)))] | rw [vg_and hc])); refine O_len rfl Tryd.underlying27 rfl ?_; exact hΦ
          (try simp only [PT])
          refine seq_opg (c := ((((a0.value == 0) && (!a0.isNil)) && (decide ((a0.list.length : Int) ≤ 40))) && !a0.has)) (V := .bool ((a0.list.length : Int) == 0)) (by first | exact wanted_f rfl rfl rfl | exact wanted_vf rfl rfl rfl) ?_ ?_
          · intro hc Φ hΦ; (repeat (first | rw [vg_of hc] | rw [vg_of (and_l hc)] | rw [vg_of (and_l (and_l hc))] | rw [vg_of (and_l (and_l (and_l hc)))] | rw [vg_and hc])); refine O_bin rfl rfl rfl eqg_int r_eql ?_; exact hΦ
          (try simp only [PT])
          refine seq_opg (c := (((a0.value == 0) && (!a0.isNil)) && (decide ((a0.list.length : Int) ≤ 40)))) (V := .bool (a0.has || ((a0.list.length : Int) == 0))) (by first | exact wanted_t rfl rfl rfl | exact wanted_vt rfl rfl rfl) ?_ ?_
          · intro hc Φ hΦ; (repeat (first | rw [vg_of hc] | rw [vg_of (and_l hc)] | rw [vg_of (and_l (and_l hc))] | rw [vg_of (and_l (and_l (and_l hc)))] | rw [vg_and hc])); refine G_or _ _ _ rfl rfl rfl rfl ?_; exact hΦ
          (try simp only [PT])
          apply seq_op (V := .bool ((((a0.value == 0) && (!a0.isNil)) && (decide ((a0.list.length : Int) ≤ 40))) && (a0.has || ((a0.list.length : Int) == 0)))) rfl
          · exact fun _ h => G_and _ _ _ rfl rfl rfl rfl h
          (try simp only [PT])
          apply seq_op (V := .bool ((((a0.value == 0) && (!a0.isNil)) && (decide ((a0.list.length : Int) ≤ 40))) && (a0.has || ((a0.list.length : Int) == 0)))) rfl
          · exact fun _ h => O_as rfl rfl h
          (try simp only [PT])
          refine list_end ?_
          refine then_norm ?_
          refine wp_ret ?_
          refine block_ret ?_
          refine then_ret ?_
          have hm := Option.some.inj hm
          subst hm
          replace H := H.dropAt 0 rfl; simp only [List.eraseIdx_cons_succ, List.eraseIdx_cons_zero] at H
          exact ret1 rfl (rv_tmp rfl) rfl ⟨rfl, H⟩
        · have hc4 := hc
          clear hc
          replace hm := ifF hc4 hm
          refine wp_seq ?_
          refine wp_region_lit ?_
          apply seq_op (V := .pointer (some ⟨b1, 0, none⟩)) rfl
          · exact fun _ h => O_fld rfl Tryd.underlying108 rfl (Tryd.sizeOf3 _) rfl h
          (try simp only [PT])
          apply seq_op (V := .int .i64 a0.kind) rfl
          · exact fun _ h => L_1 0 _ _ rfl (Tryd.isAgg3 _) rfl H rfl rfl h
          (try simp only [PT])
          apply seq_op (V := .bool (a0.kind == 4)) rfl
          · exact fun _ h => O_bin rfl rfl rfl eqg_int r_eql h
          (try simp only [PT])
          apply seq_op (V := .bool (a0.kind == 4)) rfl
          · exact fun _ h => O_as rfl rfl h
          (try simp only [PT])
          refine list_end ?_
          refine then_norm ?_
          refine wp_cond_split rfl (fun hc => ?_) (fun hc => ?_)
          · have hc5 := hc
            clear hc
            replace hm := ifT hc5 hm
            refine wp_seq ?_
            refine wp_region_lit ?_
            apply seq_op (V := .pointer (some ⟨b1, 3, none⟩)) rfl
            · exact fun _ h => O_fld rfl Tryd.underlying108 rfl (Tryd.sizeOf27 _) rfl h
            (try simp only [PT])
            apply seq_op (V := .slice A_p0_list a0.list.length c_p0_list) rfl
            · exact fun _ h => L_1 0 _ _ rfl (Tryd.isAgg27 _) rfl H rfl rfl h
            (try simp only [PT])
            apply seq_op (V := .int .i64 (a0.list.length : Int)) rfl
            · exact fun _ h => O_len rfl Tryd.underlying27 rfl h
            (try simp only [PT])
            apply seq_op (V := .bool ((a0.list.length : Int) == 0)) rfl
            · exact fun _ h => O_bin rfl rfl rfl eqg_int r_eql h
            (try simp only [PT])
            apply seq_op (V := .bool ((a0.list.length : Int) == 0)) rfl
            · exact fun _ h => O_mv rfl rfl h
            (try simp only [PT])
            refine seq_opg (c := ((a0.list.length : Int) == 0)) (V := .pointer (some ⟨b1, 4, none⟩)) (by first | exact wanted_t rfl rfl rfl | exact wanted_vt rfl rfl rfl) ?_ ?_
            · intro hc Φ hΦ; refine O_fld rfl Tryd.underlying108 rfl (Tryd.sizeOf4 _) rfl ?_; exact hΦ
            (try simp only [PT])
            refine seq_opg (c := ((a0.list.length : Int) == 0)) (V := .bool a0.has) (by first | exact wanted_t rfl rfl rfl | exact wanted_vt rfl rfl rfl) ?_ ?_
            · intro hc Φ hΦ; (repeat (first | rw [vg_of hc] | rw [vg_of (and_l hc)] | rw [vg_of (and_l (and_l hc))] | rw [vg_of (and_l (and_l (and_l hc)))] | rw [vg_and hc])); refine L_1 0 _ _ rfl (Tryd.isAgg4 _) rfl H rfl rfl ?_; exact hΦ
            (try simp only [PT])
            refine seq_opg (c := ((a0.list.length : Int) == 0)) (V := .bool a0.has) (by first | exact wanted_t rfl rfl rfl | exact wanted_vt rfl rfl rfl) ?_ ?_
            · intro hc Φ hΦ; (repeat (first | rw [vg_of hc] | rw [vg_of (and_l hc)] | rw [vg_of (and_l (and_l hc))] | rw [vg_of (and_l (and_l (and_l hc)))] | rw [vg_and hc])); refine O_mv rfl rfl ?_; exact hΦ
            (try simp only [PT])
            refine seq_opg (c := (((a0.list.length : Int) == 0) && !a0.has)) (V := .pointer (some ⟨b1, 5, none⟩)) (by first | exact wanted_f rfl rfl rfl | exact wanted_vf rfl rfl rfl) ?_ ?_
            · intro hc Φ hΦ; refine O_fld rfl Tryd.underlying108 rfl (Tryd.sizeOf4 _) rfl ?_; exact hΦ
            (try simp only [PT])
            refine seq_opg (c := (((a0.list.length : Int) == 0) && !a0.has)) (V := .bool a0.isNil) (by first | exact wanted_f rfl rfl rfl | exact wanted_vf rfl rfl rfl) ?_ ?_
            · intro hc Φ hΦ; (repeat (first | rw [vg_of hc] | rw [vg_of (and_l hc)] | rw [vg_of (and_l (and_l hc))] | rw [vg_of (and_l (and_l (and_l hc)))] | rw [vg_and hc])); refine L_1 0 _ _ rfl (Tryd.isAgg4 _) rfl H rfl rfl ?_; exact hΦ
            (try simp only [PT])
            refine seq_opg (c := (((a0.list.length : Int) == 0) && !a0.has)) (V := .bool (!a0.isNil)) (by first | exact wanted_f rfl rfl rfl | exact wanted_vf rfl rfl rfl) ?_ ?_
            · intro hc Φ hΦ; (repeat (first | rw [vg_of hc] | rw [vg_of (and_l hc)] | rw [vg_of (and_l (and_l hc))] | rw [vg_of (and_l (and_l (and_l hc)))] | rw [vg_and hc])); refine O_not rfl rfl ?_; exact hΦ
            (try simp only [PT])
            refine seq_opg (c := ((a0.list.length : Int) == 0)) (V := .bool (a0.has || (!a0.isNil))) (by first | exact wanted_t rfl rfl rfl | exact wanted_vt rfl rfl rfl) ?_ ?_
            · intro hc Φ hΦ; (repeat (first | rw [vg_of hc] | rw [vg_of (and_l hc)] | rw [vg_of (and_l (and_l hc))] | rw [vg_of (and_l (and_l (and_l hc)))] | rw [vg_and hc])); refine G_or _ _ _ rfl rfl rfl rfl ?_; exact hΦ
            (try simp only [PT])
            apply seq_op (V := .bool (((a0.list.length : Int) == 0) && (a0.has || (!a0.isNil)))) rfl
            · exact fun _ h => G_and _ _ _ rfl rfl rfl rfl h
            (try simp only [PT])
            apply seq_op (V := .bool (((a0.list.length : Int) == 0) && (a0.has || (!a0.isNil)))) rfl
            · exact fun _ h => O_mv rfl rfl h
            (try simp only [PT])
            refine seq_opg (c := (((a0.list.length : Int) == 0) && (a0.has || (!a0.isNil)))) (V := .pointer (some ⟨b1, 2, none⟩)) (by first | exact wanted_t rfl rfl rfl | exact wanted_vt rfl rfl rfl) ?_ ?_
            · intro hc Φ hΦ; refine O_fld rfl Tryd.underlying108 rfl (Tryd.sizeOf3 _) rfl ?_; exact hΦ
            (try simp only [PT])
            refine seq_opg (c := (((a0.list.length : Int) == 0) && (a0.has || (!a0.isNil)))) (V := .int .i64 a0.value) (by first | exact wanted_t rfl rfl rfl | exact wanted_vt rfl rfl rfl) ?_ ?_
            · intro hc Φ hΦ; (repeat (first | rw [vg_of hc] | rw [vg_of (and_l hc)] | rw [vg_of (and_l (and_l hc))] | rw [vg_of (and_l (and_l (and_l hc)))] | rw [vg_and hc])); refine L_1 0 _ _ rfl (Tryd.isAgg3 _) rfl H rfl rfl ?_; exact hΦ
            (try simp only [PT])
            refine seq_opg (c := (((a0.list.length : Int) == 0) && (a0.has || (!a0.isNil)))) (V := .bool (a0.value == 0)) (by first | exact wanted_t rfl rfl rfl | exact wanted_vt rfl rfl rfl) ?_ ?_
            · intro hc Φ hΦ; (repeat (first | rw [vg_of hc] | rw [vg_of (and_l hc)] | rw [vg_of (and_l (and_l hc))] | rw [vg_of (and_l (and_l (and_l hc)))] | rw [vg_and hc])); refine O_bin rfl rfl rfl eqg_int r_eql ?_; exact hΦ
            (try simp only [PT])
            refine seq_opg (c := (((a0.list.length : Int) == 0) && (a0.has || (!a0.isNil)))) (V := .bool (a0.value == 0)) (by first | exact wanted_t rfl rfl rfl | exact wanted_vt rfl rfl rfl) ?_ ?_
            · intro hc Φ hΦ; (repeat (first | rw [vg_of hc] | rw [vg_of (and_l hc)] | rw [vg_of (and_l (and_l hc))] | rw [vg_of (and_l (and_l (and_l hc)))] | rw [vg_and hc])); refine O_mv rfl rfl ?_; exact hΦ
            (try simp only [PT])
            refine seq_opg (c := ((((a0.list.length : Int) == 0) && (a0.has || (!a0.isNil))) && !(a0.value == 0))) (V := .pointer (some ⟨b1, 4, none⟩)) (by first | exact wanted_f rfl rfl rfl | exact wanted_vf rfl rfl rfl) ?_ ?_
            · intro hc Φ hΦ; refine O_fld rfl Tryd.underlying108 rfl (Tryd.sizeOf4 _) rfl ?_; exact hΦ
            (try simp only [PT])
            refine seq_opg (c := ((((a0.list.length : Int) == 0) && (a0.has || (!a0.isNil))) && !(a0.value == 0))) (V := .bool a0.has) (by first | exact wanted_f rfl rfl rfl | exact wanted_vf rfl rfl rfl) ?_ ?_
            · intro hc Φ hΦ; (repeat (first | rw [vg_of hc] | rw [vg_of (and_l hc)] | rw [vg_of (and_l (and_l hc))] | rw [vg_of (and_l (and_l (and_l hc)))] | rw [vg_and hc])); refine L_1 0 _ _ rfl (Tryd.isAgg4 _) rfl H rfl rfl ?_; exact hΦ
            (try simp only [PT])
            refine seq_opg (c := ((((a0.list.length : Int) == 0) && (a0.has || (!a0.isNil))) && !(a0.value == 0))) (V := .bool a0.has) (by first | exact wanted_f rfl rfl rfl | exact wanted_vf rfl rfl rfl) ?_ ?_
            · intro hc Φ hΦ; (repeat (first | rw [vg_of hc] | rw [vg_of (and_l hc)] | rw [vg_of (and_l (and_l hc))] | rw [vg_of (and_l (and_l (and_l hc)))] | rw [vg_and hc])); refine O_mv rfl rfl ?_; exact hΦ
            (try simp only [PT])
            refine seq_opg (c := (((((a0.list.length : Int) == 0) && (a0.has || (!a0.isNil))) && !(a0.value == 0)) && a0.has)) (V := .pointer (some ⟨b1, 5, none⟩)) (by first | exact wanted_t rfl rfl rfl | exact wanted_vt rfl rfl rfl) ?_ ?_
            · intro hc Φ hΦ; refine O_fld rfl Tryd.underlying108 rfl (Tryd.sizeOf4 _) rfl ?_; exact hΦ
            (try simp only [PT])
            refine seq_opg (c := (((((a0.list.length : Int) == 0) && (a0.has || (!a0.isNil))) && !(a0.value == 0)) && a0.has)) (V := .bool a0.isNil) (by first | exact wanted_t rfl rfl rfl | exact wanted_vt rfl rfl rfl) ?_ ?_
            · intro hc Φ hΦ; (repeat (first | rw [vg_of hc] | rw [vg_of (and_l hc)] | rw [vg_of (and_l (and_l hc))] | rw [vg_of (and_l (and_l (and_l hc)))] | rw [vg_and hc])); refine L_1 0 _ _ rfl (Tryd.isAgg4 _) rfl H rfl rfl ?_; exact hΦ
            (try simp only [PT])
            refine seq_opg (c := (((((a0.list.length : Int) == 0) && (a0.has || (!a0.isNil))) && !(a0.value == 0)) && a0.has)) (V := .bool (!a0.isNil)) (by first | exact wanted_t rfl rfl rfl | exact wanted_vt rfl rfl rfl) ?_ ?_
            · intro hc Φ hΦ; (repeat (first | rw [vg_of hc] | rw [vg_of (and_l hc)] | rw [vg_of (and_l (and_l hc))] | rw [vg_of (and_l (and_l (and_l hc)))] | rw [vg_and hc])); refine O_not rfl rfl ?_; exact hΦ
            (try simp only [PT])
            refine seq_opg (c := ((((a0.list.length : Int) == 0) && (a0.has || (!a0.isNil))) && !(a0.value == 0))) (V := .bool (a0.has && (!a0.isNil))) (by first | exact wanted_f rfl rfl rfl | exact wanted_vf rfl rfl rfl) ?_ ?_
            · intro hc Φ hΦ; (repeat (first | rw [vg_of hc] | rw [vg_of (and_l hc)] | rw [vg_of (and_l (and_l hc))] | rw [vg_of (and_l (and_l (and_l hc)))] | rw [vg_and hc])); refine G_and _ _ _ rfl rfl rfl rfl ?_; exact hΦ
            (try simp only [PT])
            refine seq_opg (c := (((a0.list.length : Int) == 0) && (a0.has || (!a0.isNil)))) (V := .bool ((a0.value == 0) || (a0.has && (!a0.isNil)))) (by first | exact wanted_t rfl rfl rfl | exact wanted_vt rfl rfl rfl) ?_ ?_
            · intro hc Φ hΦ; (repeat (first | rw [vg_of hc] | rw [vg_of (and_l hc)] | rw [vg_of (and_l (and_l hc))] | rw [vg_of (and_l (and_l (and_l hc)))] | rw [vg_and hc])); refine G_or _ _ _ rfl rfl rfl rfl ?_; exact hΦ
            (try simp only [PT])
            apply seq_op (V := .bool ((((a0.list.length : Int) == 0) && (a0.has || (!a0.isNil))) && ((a0.value == 0) || (a0.has && (!a0.isNil))))) rfl
            · exact fun _ h => G_and _ _ _ rfl rfl rfl rfl h
            (try simp only [PT])
            apply seq_op (V := .bool ((((a0.list.length : Int) == 0) && (a0.has || (!a0.isNil))) && ((a0.value == 0) || (a0.has && (!a0.isNil))))) rfl
            · exact fun _ h => O_as rfl rfl h
            (try simp only [PT])
            refine list_end ?_
            refine then_norm ?_
            refine wp_ret ?_
            refine block_ret ?_
            refine then_ret ?_
            have hm := Option.some.inj hm
            subst hm
            replace H := H.dropAt 0 rfl; simp only [List.eraseIdx_cons_succ, List.eraseIdx_cons_zero] at H
            exact ret1 rfl (rv_tmp rfl) rfl ⟨rfl, H⟩
          · have hc5 := hc
            clear hc
            replace hm := ifF hc5 hm
            refine wp_skip ?_
            refine block_norm ?_
            refine then_norm ?_
            refine wp_seq ?_
            refine wp_region_lit ?_
            apply seq_op (V := .bool false) rfl
            · exact fun _ h => O_as rfl rfl h
            (try simp only [PT])
            refine list_end ?_
            refine then_norm ?_
            refine wp_ret ?_
            have hm := Option.some.inj hm
            subst hm
            replace H := H.dropAt 0 rfl; simp only [List.eraseIdx_cons_succ, List.eraseIdx_cons_zero] at H
            exact ret1 rfl (rv_tmp rfl) rfl ⟨rfl, H⟩
def histtext_Can_1_f (a0 : Op') : Option Bool := (histtext_CanOp_f a0).bind fun u1 => some (!u1)

set_option maxHeartbeats 4000000 in
theorem histtext_Can_1_w {E : World} {s : SH} {L : List HP} {w : World} {a0 : Op'} {A_p0_list : Option Addr} {c_p0_list : Nat} (h_p0_list : kI.Sl s (.slice A_p0_list a0.list.length c_p0_list) a0.list) (hz_p0_key : a0.key.size ≤ 140737488351232) {R : Bool} (hm : histtext_Can_1_f a0 = some R) (H : Holds E s (L) w) :
    Calls Tryd.prog 149 #[.agg #[.int .i64 a0.kind, .string a0.key, .int .i64 a0.value, .slice A_p0_list a0.list.length c_p0_list, .bool a0.has, .bool a0.isNil]] w fun e w' => e = .returned (.bool R) ∧ Holds E s (L) w' := by
  unfold histtext_Can_1_f at hm
  go_enter Tryd.func149, Tryd.ntmps149
  refine wp_seq ?_
  refine wp_region_lit ?_
  refine OpG.list rfl ?_; refine B_x 108 _ rfl (v := .agg #[.int .i64 a0.kind, .string a0.key, .int .i64 a0.value, .slice A_p0_list a0.list.length c_p0_list, .bool a0.has, .bool a0.isNil]) rfl H ?_; clear H; intro b1 w1 H; (try simp only [Value.cells] at H)
  (try simp only [PT])
  apply seq_op (V := .bool false) rfl
  · exact fun _ h => O_as rfl rfl h
  (try simp only [PT])
  refine list_end ?_
  refine then_norm ?_
  refine wp_seq ?_
  obtain ⟨u1, gx1, hm⟩ := bs hm
  refine wp_region_lit ?_
  apply seq_op (V := .agg #[.int .i64 a0.kind, .string a0.key, .int .i64 a0.value, .slice A_p0_list a0.list.length c_p0_list, .bool a0.has, .bool a0.isNil]) rfl
  · exact fun _ h => G_pNi 0 _ _ rfl (Tryd.isAgg108 _) rfl H rfl (Tryd.sizeOf108 _) h
  (try simp only [PT])
  refine seq_call rfl (fun Φ hΦ => by refine O_call1 rfl Tryd.func150 rfl rfl rfl hΦ) (histtext_CanOp_w (a0 := a0) (hz_p0_key := hz_p0_key) (h_p0_list := h_p0_list) (hm := gx1) (H := H)) ?_
  clear H
  rintro e w1 ⟨rfl, H⟩; refine ⟨_, rfl, ?_⟩
  (try simp only [PT])
  apply seq_op (V := .bool (!u1)) rfl
  · exact fun _ h => O_not rfl rfl h
  (try simp only [PT])
  apply seq_op (V := .bool (!u1)) rfl
  · exact fun _ h => O_as rfl rfl h
  (try simp only [PT])
  refine list_end ?_
  refine then_norm ?_
  refine wp_ret ?_
  have hm := Option.some.inj hm
  subst hm
  replace H := H.dropAt 0 rfl; simp only [List.eraseIdx_cons_succ, List.eraseIdx_cons_zero] at H
  exact ret1 rfl (rv_tmp rfl) rfl ⟨rfl, H⟩
def slices_IndexFunc_Op_histtext_Can_1_l2  : Nat → List Op' → Option ((Int ⊕ Unit))
  | k2, []  => some (.inr ())
  | k2, x2 :: r2 => (histtext_Can_1_f x2).bind fun u1 => if u1 = true then (some (.inl (k2 : Int))) else (slices_IndexFunc_Op_histtext_Can_1_l2 (k2 + 1) r2)

def slices_IndexFunc_Op_histtext_Can_1_f (a0 : List Op') : Option Int := (slices_IndexFunc_Op_histtext_Can_1_l2 0 a0).bind fun | .inl z2_r => (some z2_r) | .inr () => (some (-1))

set_option maxHeartbeats 4000000 in
theorem slices_IndexFunc_Op_histtext_Can_1_w {E : World} {s : SH} {L : List HP} {w : World} {a0 : List Op'} {A_p0 : Option Addr} {c_p0 : Nat} (h_p0 : kOp.Sl s (.slice A_p0 a0.length c_p0) a0) {R : Int} (hm : slices_IndexFunc_Op_histtext_Can_1_f a0 = some R) (H : Holds E s (L) w) :
    Calls Tryd.prog 174 #[.slice A_p0 a0.length c_p0, .func (.func 149) #[] #[]] w fun e w' => e = .returned (.int .i64 R) ∧ Holds E s (L) w' := by
  unfold slices_IndexFunc_Op_histtext_Can_1_f at hm
  go_enter Tryd.func174, Tryd.ntmps174
  refine wp_seq ?_
  refine wp_region_lit ?_
  apply seq_op (V := .int .i64 0) rfl
  · exact fun _ h => O_as rfl rfl h
  (try simp only [PT])
  refine list_end ?_
  refine then_norm ?_
  refine wp_seq ?_
  refine wp_seq ?_
  refine wp_region_lit ?_
  apply seq_op (V := .slice A_p0 a0.length c_p0) rfl
  · exact fun _ h => O_mv rfl rfl h
  (try simp only [PT])
  apply seq_op (V := .int .i64 (a0.length : Int)) rfl
  · exact fun _ h => O_len rfl Tryd.underlying71 rfl h
  (try simp only [PT])
  apply seq_op (V := .int .i64 0) rfl
  · exact fun _ h => O_mv rfl rfl h
  (try simp only [PT])
  refine list_end ?_
  refine then_norm ?_
  refine wp_block ?_
  obtain ⟨R2, hq2, hm⟩ := bs hm
  have hn2 := Nat.le_trans (len_le (d := kOp) h_p0 (by decide)) (by decide : (140737488355328 : Nat) ≤ 9223372036854775807)
  refine wp_loopF [none, none, none, none, some 4, some 5, none, none, some 8, some 9, some 10, some 11, some 12, some 13, some 14, some 15, some 16, some 17, some 18] rfl (by simp) (fun f w => ∃ (k2 : Nat) (r2 : List Op'), a0.drop k2 = r2 ∧ f 8 = .int .i64 (k2 : Int) ∧ slices_IndexFunc_Op_histtext_Can_1_l2 k2 r2 = some R2 ∧ Holds E s (L) w) (fun f w => a0.length - (intOf (f 8)).toNat) ?_ ?_
  · exact ⟨0, a0, rfl, rfl, hq2, H⟩
  · clear H
    intro f w hI
    obtain ⟨k2, r2, hd2, hf8, hq2', H⟩ := hI
    clear hq2; have hq2 := hq2'; clear hq2'
    simp only [ovm, mixM]
    simp only [hf8]; clear hf8
    refine wp_seq ?_
    refine wp_region_lit ?_
    apply seq_op (V := .bool (decide ((k2 : Int) < (a0.length : Int)))) rfl
    · exact fun _ h => O_bin rfl rfl rfl eqg_int r_lss h
    (try simp only [PT])
    refine list_end ?_
    refine then_norm ?_
    refine wp_seq ?_
    refine wp_cond_split rfl (fun hc => ?_) (fun hc => ?_)
    · have hc1 := hc
      clear hc
      obtain ⟨x2, r2', rfl, hd2', hd2'', hl2⟩ := rng_t hd2 hc1
      rw [slices_IndexFunc_Op_histtext_Can_1_l2] at hq2
      refine wp_skip ?_
      refine then_norm ?_
      refine wp_seq ?_
      refine wp_block ?_
      refine wp_seq ?_
      refine wp_region_lit ?_
      apply seq_op (V := .int .i64 (k2 : Int)) rfl
      · exact fun _ h => O_mv rfl rfl h
      (try simp only [PT])
      apply seq_op (V := .int .i64 (k2 : Int)) rfl
      · exact fun _ h => O_as rfl rfl h
      (try simp only [PT])
      refine list_end ?_
      refine then_norm ?_
      refine wp_seq ?_
      obtain ⟨be1, oe1, A3e1, c3e1, rfl, hCe1, h0e1, h1e1, h2e1, h3e1⟩ := kOp_el h_p0 hd2'
      obtain ⟨u1, gx1, hq2⟩ := bs hq2
      refine wp_region_lit ?_
      apply seq_op (V := .func (.func 149) #[] #[]) rfl
      · exact fun _ h => O_mv rfl rfl h
      (try simp only [PT])
      apply seq_op (V := .slice (some ⟨be1, oe1, none⟩) a0.length c_p0) rfl
      · exact fun _ h => O_mv rfl rfl h
      (try simp only [PT])
      apply seq_op (V := .int .i64 (k2 : Int)) rfl
      · exact fun _ h => O_mv rfl rfl h
      (try simp only [PT])
      apply seq_op (V := .pointer (some ⟨be1, oe1 + k2 * 6, none⟩)) rfl
      · exact fun _ h => O_ix rfl Tryd.underlying71 (Tryd.sizeOf108 _) rfl rfl rfl hl2 h
      (try simp only [PT])
      apply seq_op (V := .agg #[.int .i64 x2.kind, .string x2.key, .int .i64 x2.value, .slice A3e1 x2.list.length c3e1, .bool x2.has, .bool x2.isNil]) rfl
      · exact fun _ h => G_sN _ _ rfl (Tryd.isAgg108 _) rfl H hCe1 (Tryd.sizeOf108 _) h
      (try simp only [PT])
      refine seq_call rfl (fun Φ hΦ => by refine O_callv1 (args := #[.agg #[.int .i64 x2.kind, .string x2.key, .int .i64 x2.value, .slice A3e1 x2.list.length c3e1, .bool x2.has, .bool x2.isNil]]) (v1 := .agg #[.int .i64 x2.kind, .string x2.key, .int .i64 x2.value, .slice A3e1 x2.list.length c3e1, .bool x2.has, .bool x2.isNil]) rfl Tryd.func149 rfl rfl rfl rfl (by simp only [Array.append_empty]) hΦ) (histtext_Can_1_w (a0 := x2) (hz_p0_key := h1e1) (h_p0_list := h3e1) (hm := gx1) (H := H)) ?_
      clear H
      rintro e w1 ⟨rfl, H⟩; refine ⟨_, rfl, ?_⟩
      (try simp only [PT])
      refine list_end ?_
      refine then_norm ?_
      refine wp_cond_split rfl (fun hc => ?_) (fun hc => ?_)
      · have hc2 := hc
        clear hc
        replace hq2 := ifT hc2 hq2
        refine wp_seq ?_
        refine wp_region_lit ?_
        apply seq_op (V := .int .i64 (k2 : Int)) rfl
        · exact fun _ h => O_mv rfl rfl h
        (try simp only [PT])
        apply seq_op (V := .int .i64 (k2 : Int)) rfl
        · exact fun _ h => O_as rfl rfl h
        (try simp only [PT])
        refine list_end ?_
        refine then_norm ?_
        refine wp_ret ?_
        refine block_ret ?_
        refine then_ret ?_
        refine then_ret ?_
        refine block_ret ?_
        refine then_ret ?_
        have hq2 := Option.some.inj hq2
        subst hq2
        (try dsimp only at hm)
        have hm := Option.some.inj hm
        subst hm
        exact ret1 rfl (rv_tmp rfl) rfl ⟨rfl, H⟩
      · have hc2 := hc
        clear hc
        replace hq2 := ifF hc2 hq2
        refine wp_skip ?_
        refine block_norm ?_
        refine then_norm ?_
        refine wp_region_lit ?_
        apply seq_op (V := .int .i64 (IntKind.i64.wrap ((k2 : Int) + 1))) rfl
        · exact fun _ h => O_bin rfl rfl rfl eqg_int r_add h
        (try simp only [PT])
        apply seq_op (V := .int .i64 (IntKind.i64.wrap ((k2 : Int) + 1))) rfl
        · exact fun _ h => O_mv rfl rfl h
        (try simp only [PT])
        refine list_end ?_
        refine then_norm ?_
        refine ⟨⟨⟨rfl, rfl, rfl, rfl, rfl, rfl, rfl⟩, rfl⟩, ⟨k2 + 1, _, hd2'', wrap_succ hl2 hn2, hq2, H⟩, ?_⟩
        exact meas_succ hl2 hn2
    · have hc1 := hc
      clear hc
      obtain rfl := rng_f hd2 hc1
      rw [slices_IndexFunc_Op_histtext_Can_1_l2] at hq2
      refine wp_exit ?_
      refine then_exit ?_
      refine then_exit ?_
      have hq2 := Option.some.inj hq2
      subst hq2
      (try dsimp only at hm)
      refine block_exit ?_
      refine then_norm ?_
      refine wp_seq ?_
      refine wp_region_lit ?_
      apply seq_op (V := .int .i64 (-1)) rfl
      · exact fun _ h => O_as rfl rfl h
      (try simp only [PT])
      refine list_end ?_
      refine then_norm ?_
      refine wp_ret ?_
      have hm := Option.some.inj hm
      subst hm
      exact ret1 rfl (rv_tmp rfl) rfl ⟨rfl, H⟩
def slices_ContainsFunc_Op_histtext_Can_1_f (a0 : List Op') : Option Bool := (slices_IndexFunc_Op_histtext_Can_1_f a0).bind fun u1 => some (decide (u1 ≥ 0))

set_option maxHeartbeats 4000000 in
theorem slices_ContainsFunc_Op_histtext_Can_1_w {E : World} {s : SH} {L : List HP} {w : World} {a0 : List Op'} {A_p0 : Option Addr} {c_p0 : Nat} (h_p0 : kOp.Sl s (.slice A_p0 a0.length c_p0) a0) {R : Bool} (hm : slices_ContainsFunc_Op_histtext_Can_1_f a0 = some R) (H : Holds E s (L) w) :
    Calls Tryd.prog 153 #[.slice A_p0 a0.length c_p0, .func (.func 149) #[] #[]] w fun e w' => e = .returned (.bool R) ∧ Holds E s (L) w' := by
  unfold slices_ContainsFunc_Op_histtext_Can_1_f at hm
  go_enter Tryd.func153, Tryd.ntmps153
  refine wp_seq ?_
  refine wp_region_lit ?_
  apply seq_op (V := .bool false) rfl
  · exact fun _ h => O_as rfl rfl h
  (try simp only [PT])
  refine list_end ?_
  refine then_norm ?_
  refine wp_seq ?_
  obtain ⟨u1, gx1, hm⟩ := bs hm
  refine wp_region_lit ?_
  apply seq_op (V := .slice A_p0 a0.length c_p0) rfl
  · exact fun _ h => O_mv rfl rfl h
  (try simp only [PT])
  apply seq_op (V := .func (.func 149) #[] #[]) rfl
  · exact fun _ h => O_mv rfl rfl h
  (try simp only [PT])
  refine seq_call rfl (fun Φ hΦ => by refine O_call2 rfl Tryd.func174 rfl rfl rfl rfl hΦ) (slices_IndexFunc_Op_histtext_Can_1_w (a0 := a0) (h_p0 := h_p0) (hm := gx1) (H := H)) ?_
  clear H
  rintro e w1 ⟨rfl, H⟩; refine ⟨_, rfl, ?_⟩
  (try simp only [PT])
  apply seq_op (V := .bool (decide (u1 ≥ 0))) rfl
  · exact fun _ h => O_bin rfl rfl rfl eqg_int r_geq h
  (try simp only [PT])
  apply seq_op (V := .bool (decide (u1 ≥ 0))) rfl
  · exact fun _ h => O_as rfl rfl h
  (try simp only [PT])
  refine list_end ?_
  refine then_norm ?_
  refine wp_ret ?_
  have hm := Option.some.inj hm
  subst hm
  exact ret1 rfl (rv_tmp rfl) rfl ⟨rfl, H⟩
def histtext_Can_2_f (a0 : Ev) : Option Bool := if ((((((decide (a0.kind < 1)) || (decide (a0.kind > 4))) || (decide (a0.proc < 0))) || (decide (a0.proc > 99))) || (decide ((a0.ops.length : Int) < 1))) || (decide ((a0.ops.length : Int) > 8))) = true then (some true) else ((slices_ContainsFunc_Op_histtext_Can_1_f a0.ops).bind fun u1 => some u1)

set_option maxHeartbeats 4000000 in
theorem histtext_Can_2_w {E : World} {s : SH} {L : List HP} {w : World} {a0 : Ev} {A_p0_ops : Option Addr} {c_p0_ops : Nat} (h_p0_ops : kOp.Sl s (.slice A_p0_ops a0.ops.length c_p0_ops) a0.ops) {b_p1 o_p1 : Nat} (hC_p1 : Cells s ⟨b_p1, o_p1, none⟩ [.func (.func 149) #[] #[]]) {R : Bool} (hm : histtext_Can_2_f a0 = some R) (H : Holds E s (L) w) :
    Calls Tryd.prog 152 #[.agg #[.int .i64 a0.kind, .int .i64 a0.proc, .slice A_p0_ops a0.ops.length c_p0_ops], .pointer (some ⟨b_p1, o_p1, none⟩)] w fun e w' => e = .returned (.bool R) ∧ Holds E s (L) w' := by
  unfold histtext_Can_2_f at hm
  go_enter Tryd.func152, Tryd.ntmps152
  refine wp_seq ?_
  refine wp_region_lit ?_
  refine OpG.list rfl ?_; refine B_x 73 _ rfl (v := .agg #[.int .i64 a0.kind, .int .i64 a0.proc, .slice A_p0_ops a0.ops.length c_p0_ops]) rfl H ?_; clear H; intro b2 w1 H; (try simp only [Value.cells] at H)
  (try simp only [PT])
  apply seq_op (V := .bool false) rfl
  · exact fun _ h => O_as rfl rfl h
  (try simp only [PT])
  refine list_end ?_
  refine then_norm ?_
  refine wp_seq ?_
  rcases Bool.eq_false_or_eq_true ((((((decide (a0.kind < 1)) || (decide (a0.kind > 4))) || (decide (a0.proc < 0))) || (decide (a0.proc > 99))) || (decide ((a0.ops.length : Int) < 1))) || (decide ((a0.ops.length : Int) > 8))) with hg1 | hg1
  · replace hm := ifT hg1 hm
    refine wp_region_lit ?_
    apply seq_op (V := .pointer (some ⟨b2, 0, none⟩)) rfl
    · exact fun _ h => O_fld rfl Tryd.underlying73 rfl (Tryd.sizeOf3 _) rfl h
    (try simp only [PT])
    apply seq_op (V := .int .i64 a0.kind) rfl
    · exact fun _ h => L_1 0 _ _ rfl (Tryd.isAgg3 _) rfl H rfl rfl h
    (try simp only [PT])
    apply seq_op (V := .bool (decide (a0.kind < 1))) rfl
    · exact fun _ h => O_bin rfl rfl rfl eqg_int r_lss h
    (try simp only [PT])
    apply seq_op (V := .bool (decide (a0.kind < 1))) rfl
    · exact fun _ h => O_mv rfl rfl h
    (try simp only [PT])
    refine seq_opg (c := (!(decide (a0.kind < 1)))) (V := .pointer (some ⟨b2, 0, none⟩)) (by first | exact wanted_f rfl rfl rfl | exact wanted_vf rfl rfl rfl) ?_ ?_
    · intro hc Φ hΦ; refine O_fld rfl Tryd.underlying73 rfl (Tryd.sizeOf3 _) rfl ?_; exact hΦ
    (try simp only [PT])
    refine seq_opg (c := (!(decide (a0.kind < 1)))) (V := .int .i64 a0.kind) (by first | exact wanted_f rfl rfl rfl | exact wanted_vf rfl rfl rfl) ?_ ?_
    · intro hc Φ hΦ; (repeat (first | rw [vg_of hc] | rw [vg_of (and_l hc)] | rw [vg_of (and_l (and_l hc))] | rw [vg_of (and_l (and_l (and_l hc)))] | rw [vg_and hc])); refine L_1 0 _ _ rfl (Tryd.isAgg3 _) rfl H rfl rfl ?_; exact hΦ
    (try simp only [PT])
    refine seq_opg (c := (!(decide (a0.kind < 1)))) (V := .bool (decide (a0.kind > 4))) (by first | exact wanted_f rfl rfl rfl | exact wanted_vf rfl rfl rfl) ?_ ?_
    · intro hc Φ hΦ; (repeat (first | rw [vg_of hc] | rw [vg_of (and_l hc)] | rw [vg_of (and_l (and_l hc))] | rw [vg_of (and_l (and_l (and_l hc)))] | rw [vg_and hc])); refine O_bin rfl rfl rfl eqg_int r_gtr ?_; exact hΦ
    (try simp only [PT])
    apply seq_op (V := .bool ((decide (a0.kind < 1)) || (decide (a0.kind > 4)))) rfl
    · exact fun _ h => G_or _ _ _ rfl rfl rfl rfl h
    (try simp only [PT])
    apply seq_op (V := .bool ((decide (a0.kind < 1)) || (decide (a0.kind > 4)))) rfl
    · exact fun _ h => O_mv rfl rfl h
    (try simp only [PT])
    refine seq_opg (c := (!((decide (a0.kind < 1)) || (decide (a0.kind > 4))))) (V := .pointer (some ⟨b2, 1, none⟩)) (by first | exact wanted_f rfl rfl rfl | exact wanted_vf rfl rfl rfl) ?_ ?_
    · intro hc Φ hΦ; refine O_fld rfl Tryd.underlying73 rfl (Tryd.sizeOf3 _) rfl ?_; exact hΦ
    (try simp only [PT])
    refine seq_opg (c := (!((decide (a0.kind < 1)) || (decide (a0.kind > 4))))) (V := .int .i64 a0.proc) (by first | exact wanted_f rfl rfl rfl | exact wanted_vf rfl rfl rfl) ?_ ?_
    · intro hc Φ hΦ; (repeat (first | rw [vg_of hc] | rw [vg_of (and_l hc)] | rw [vg_of (and_l (and_l hc))] | rw [vg_of (and_l (and_l (and_l hc)))] | rw [vg_and hc])); refine L_1 0 _ _ rfl (Tryd.isAgg3 _) rfl H rfl rfl ?_; exact hΦ
    (try simp only [PT])
    refine seq_opg (c := (!((decide (a0.kind < 1)) || (decide (a0.kind > 4))))) (V := .bool (decide (a0.proc < 0))) (by first | exact wanted_f rfl rfl rfl | exact wanted_vf rfl rfl rfl) ?_ ?_
    · intro hc Φ hΦ; (repeat (first | rw [vg_of hc] | rw [vg_of (and_l hc)] | rw [vg_of (and_l (and_l hc))] | rw [vg_of (and_l (and_l (and_l hc)))] | rw [vg_and hc])); refine O_bin rfl rfl rfl eqg_int r_lss ?_; exact hΦ
    (try simp only [PT])
    apply seq_op (V := .bool (((decide (a0.kind < 1)) || (decide (a0.kind > 4))) || (decide (a0.proc < 0)))) rfl
    · exact fun _ h => G_or _ _ _ rfl rfl rfl rfl h
    (try simp only [PT])
    apply seq_op (V := .bool (((decide (a0.kind < 1)) || (decide (a0.kind > 4))) || (decide (a0.proc < 0)))) rfl
    · exact fun _ h => O_mv rfl rfl h
    (try simp only [PT])
    refine seq_opg (c := (!(((decide (a0.kind < 1)) || (decide (a0.kind > 4))) || (decide (a0.proc < 0))))) (V := .pointer (some ⟨b2, 1, none⟩)) (by first | exact wanted_f rfl rfl rfl | exact wanted_vf rfl rfl rfl) ?_ ?_
    · intro hc Φ hΦ; refine O_fld rfl Tryd.underlying73 rfl (Tryd.sizeOf3 _) rfl ?_; exact hΦ
    (try simp only [PT])
    refine seq_opg (c := (!(((decide (a0.kind < 1)) || (decide (a0.kind > 4))) || (decide (a0.proc < 0))))) (V := .int .i64 a0.proc) (by first | exact wanted_f rfl rfl rfl | exact wanted_vf rfl rfl rfl) ?_ ?_
    · intro hc Φ hΦ; (repeat (first | rw [vg_of hc] | rw [vg_of (and_l hc)] | rw [vg_of (and_l (and_l hc))] | rw [vg_of (and_l (and_l (and_l hc)))] | rw [vg_and hc])); refine L_1 0 _ _ rfl (Tryd.isAgg3 _) rfl H rfl rfl ?_; exact hΦ
    (try simp only [PT])
    refine seq_opg (c := (!(((decide (a0.kind < 1)) || (decide (a0.kind > 4))) || (decide (a0.proc < 0))))) (V := .bool (decide (a0.proc > 99))) (by first | exact wanted_f rfl rfl rfl | exact wanted_vf rfl rfl rfl) ?_ ?_
    · intro hc Φ hΦ; (repeat (first | rw [vg_of hc] | rw [vg_of (and_l hc)] | rw [vg_of (and_l (and_l hc))] | rw [vg_of (and_l (and_l (and_l hc)))] | rw [vg_and hc])); refine O_bin rfl rfl rfl eqg_int r_gtr ?_; exact hΦ
    (try simp only [PT])
    apply seq_op (V := .bool ((((decide (a0.kind < 1)) || (decide (a0.kind > 4))) || (decide (a0.proc < 0))) || (decide (a0.proc > 99)))) rfl
    · exact fun _ h => G_or _ _ _ rfl rfl rfl rfl h
    (try simp only [PT])
    apply seq_op (V := .bool ((((decide (a0.kind < 1)) || (decide (a0.kind > 4))) || (decide (a0.proc < 0))) || (decide (a0.proc > 99)))) rfl
    · exact fun _ h => O_mv rfl rfl h
    (try simp only [PT])
    refine seq_opg (c := (!((((decide (a0.kind < 1)) || (decide (a0.kind > 4))) || (decide (a0.proc < 0))) || (decide (a0.proc > 99))))) (V := .pointer (some ⟨b2, 2, none⟩)) (by first | exact wanted_f rfl rfl rfl | exact wanted_vf rfl rfl rfl) ?_ ?_
    · intro hc Φ hΦ; refine O_fld rfl Tryd.underlying73 rfl (Tryd.sizeOf71 _) rfl ?_; exact hΦ
    (try simp only [PT])
    refine seq_opg (c := (!((((decide (a0.kind < 1)) || (decide (a0.kind > 4))) || (decide (a0.proc < 0))) || (decide (a0.proc > 99))))) (V := .slice A_p0_ops a0.ops.length c_p0_ops) (by first | exact wanted_f rfl rfl rfl | exact wanted_vf rfl rfl rfl) ?_ ?_
    · intro hc Φ hΦ; (repeat (first | rw [vg_of hc] | rw [vg_of (and_l hc)] | rw [vg_of (and_l (and_l hc))] | rw [vg_of (and_l (and_l (and_l hc)))] | rw [vg_and hc])); refine L_1 0 _ _ rfl (Tryd.isAgg71 _) rfl H rfl rfl ?_; exact hΦ
    (try simp only [PT])
    refine seq_opg (c := (!((((decide (a0.kind < 1)) || (decide (a0.kind > 4))) || (decide (a0.proc < 0))) || (decide (a0.proc > 99))))) (V := .int .i64 (a0.ops.length : Int)) (by first | exact wanted_f rfl rfl rfl | exact wanted_vf rfl rfl rfl) ?_ ?_
    · intro hc Φ hΦ; (repeat (first | rw [vg_of hc] | rw [vg_of (and_l hc)] | rw [vg_of (and_l (and_l hc))] | rw [vg_of (and_l (and_l (and_l hc)))] | rw [vg_and hc])); refine O_len rfl Tryd.underlying71 rfl ?_; exact hΦ
    (try simp only [PT])
    refine seq_opg (c := (!((((decide (a0.kind < 1)) || (decide (a0.kind > 4))) || (decide (a0.proc < 0))) || (decide (a0.proc > 99))))) (V := .bool (decide ((a0.ops.length : Int) < 1))) (by first | exact wanted_f rfl rfl rfl | exact wanted_vf rfl rfl rfl) ?_ ?_
    · intro hc Φ hΦ; (repeat (first | rw [vg_of hc] | rw [vg_of (and_l hc)] | rw [vg_of (and_l (and_l hc))] | rw [vg_of (and_l (and_l (and_l hc)))] | rw [vg_and hc])); refine O_bin rfl rfl rfl eqg_int r_lss ?_; exact hΦ
    (try simp only [PT])
    apply seq_op (V := .bool (((((decide (a0.kind < 1)) || (decide (a0.kind > 4))) || (decide (a0.proc < 0))) || (decide (a0.proc > 99))) || (decide ((a0.ops.length : Int) < 1)))) rfl
    · exact fun _ h => G_or _ _ _ rfl rfl rfl rfl h
    (try simp only [PT])
    apply seq_op (V := .bool (((((decide (a0.kind < 1)) || (decide (a0.kind > 4))) || (decide (a0.proc < 0))) || (decide (a0.proc > 99))) || (decide ((a0.ops.length : Int) < 1)))) rfl
    · exact fun _ h => O_mv rfl rfl h
    (try simp only [PT])
    refine seq_opg (c := (!(((((decide (a0.kind < 1)) || (decide (a0.kind > 4))) || (decide (a0.proc < 0))) || (decide (a0.proc > 99))) || (decide ((a0.ops.length : Int) < 1))))) (V := .pointer (some ⟨b2, 2, none⟩)) (by first | exact wanted_f rfl rfl rfl | exact wanted_vf rfl rfl rfl) ?_ ?_
    · intro hc Φ hΦ; refine O_fld rfl Tryd.underlying73 rfl (Tryd.sizeOf71 _) rfl ?_; exact hΦ
    (try simp only [PT])
    refine seq_opg (c := (!(((((decide (a0.kind < 1)) || (decide (a0.kind > 4))) || (decide (a0.proc < 0))) || (decide (a0.proc > 99))) || (decide ((a0.ops.length : Int) < 1))))) (V := .slice A_p0_ops a0.ops.length c_p0_ops) (by first | exact wanted_f rfl rfl rfl | exact wanted_vf rfl rfl rfl) ?_ ?_
    · intro hc Φ hΦ; (repeat (first | rw [vg_of hc] | rw [vg_of (and_l hc)] | rw [vg_of (and_l (and_l hc))] | rw [vg_of (and_l (and_l (and_l hc)))] | rw [vg_and hc])); refine L_1 0 _ _ rfl (Tryd.isAgg71 _) rfl H rfl rfl ?_; exact hΦ
    (try simp only [PT])
    refine seq_opg (c := (!(((((decide (a0.kind < 1)) || (decide (a0.kind > 4))) || (decide (a0.proc < 0))) || (decide (a0.proc > 99))) || (decide ((a0.ops.length : Int) < 1))))) (V := .int .i64 (a0.ops.length : Int)) (by first | exact wanted_f rfl rfl rfl | exact wanted_vf rfl rfl rfl) ?_ ?_
    · intro hc Φ hΦ; (repeat (first | rw [vg_of hc] | rw [vg_of (and_l hc)] | rw [vg_of (and_l (and_l hc))] | rw [vg_of (and_l (and_l (and_l hc)))] | rw [vg_and hc])); refine O_len rfl Tryd.underlying71 rfl ?_; exact hΦ
    (try simp only [PT])
    refine seq_opg (c := (!(((((decide (a0.kind < 1)) || (decide (a0.kind > 4))) || (decide (a0.proc < 0))) || (decide (a0.proc > 99))) || (decide ((a0.ops.length : Int) < 1))))) (V := .bool (decide ((a0.ops.length : Int) > 8))) (by first | exact wanted_f rfl rfl rfl | exact wanted_vf rfl rfl rfl) ?_ ?_
    · intro hc Φ hΦ; (repeat (first | rw [vg_of hc] | rw [vg_of (and_l hc)] | rw [vg_of (and_l (and_l hc))] | rw [vg_of (and_l (and_l (and_l hc)))] | rw [vg_and hc])); refine O_bin rfl rfl rfl eqg_int r_gtr ?_; exact hΦ
    (try simp only [PT])
    apply seq_op (V := .bool ((((((decide (a0.kind < 1)) || (decide (a0.kind > 4))) || (decide (a0.proc < 0))) || (decide (a0.proc > 99))) || (decide ((a0.ops.length : Int) < 1))) || (decide ((a0.ops.length : Int) > 8)))) rfl
    · exact fun _ h => G_or _ _ _ rfl rfl rfl rfl h
    (try simp only [PT])
    apply seq_op (V := .bool ((((((decide (a0.kind < 1)) || (decide (a0.kind > 4))) || (decide (a0.proc < 0))) || (decide (a0.proc > 99))) || (decide ((a0.ops.length : Int) < 1))) || (decide ((a0.ops.length : Int) > 8)))) rfl
    · exact fun _ h => O_mv rfl rfl h
    (try simp only [PT])
    refine seq_skip ((wanted_f rfl rfl rfl).trans (congrArg not hg1)) ?_
    (try simp only [PT])
    refine seq_skip ((wanted_f rfl rfl rfl).trans (congrArg not hg1)) ?_
    (try simp only [PT])
    refine seq_skip ((wanted_f rfl rfl rfl).trans (congrArg not hg1)) ?_
    (try simp only [PT])
    refine seq_skip ((wanted_f rfl rfl rfl).trans (congrArg not hg1)) ?_
    (try simp only [PT])
    apply seq_op (V := .bool true) rfl
    · exact fun _ h => O_pickT rfl rfl hg1 rfl h
    (try simp only [PT])
    apply seq_op (V := .bool true) rfl
    · exact fun _ h => O_as rfl rfl h
    (try simp only [PT])
    refine list_end ?_
    refine then_norm ?_
    refine wp_ret ?_
    have hm := Option.some.inj hm
    subst hm
    replace H := H.dropAt 0 rfl; simp only [List.eraseIdx_cons_succ, List.eraseIdx_cons_zero] at H
    exact ret1 rfl (rv_tmp rfl) rfl ⟨rfl, H⟩
  · replace hm := ifF hg1 hm
    obtain ⟨u1, gx1, hm⟩ := bs hm
    refine wp_region_lit ?_
    apply seq_op (V := .pointer (some ⟨b2, 0, none⟩)) rfl
    · exact fun _ h => O_fld rfl Tryd.underlying73 rfl (Tryd.sizeOf3 _) rfl h
    (try simp only [PT])
    apply seq_op (V := .int .i64 a0.kind) rfl
    · exact fun _ h => L_1 0 _ _ rfl (Tryd.isAgg3 _) rfl H rfl rfl h
    (try simp only [PT])
    apply seq_op (V := .bool (decide (a0.kind < 1))) rfl
    · exact fun _ h => O_bin rfl rfl rfl eqg_int r_lss h
    (try simp only [PT])
    apply seq_op (V := .bool (decide (a0.kind < 1))) rfl
    · exact fun _ h => O_mv rfl rfl h
    (try simp only [PT])
    refine seq_opg (c := (!(decide (a0.kind < 1)))) (V := .pointer (some ⟨b2, 0, none⟩)) (by first | exact wanted_f rfl rfl rfl | exact wanted_vf rfl rfl rfl) ?_ ?_
    · intro hc Φ hΦ; refine O_fld rfl Tryd.underlying73 rfl (Tryd.sizeOf3 _) rfl ?_; exact hΦ
    (try simp only [PT])
    refine seq_opg (c := (!(decide (a0.kind < 1)))) (V := .int .i64 a0.kind) (by first | exact wanted_f rfl rfl rfl | exact wanted_vf rfl rfl rfl) ?_ ?_
    · intro hc Φ hΦ; (repeat (first | rw [vg_of hc] | rw [vg_of (and_l hc)] | rw [vg_of (and_l (and_l hc))] | rw [vg_of (and_l (and_l (and_l hc)))] | rw [vg_and hc])); refine L_1 0 _ _ rfl (Tryd.isAgg3 _) rfl H rfl rfl ?_; exact hΦ
    (try simp only [PT])
    refine seq_opg (c := (!(decide (a0.kind < 1)))) (V := .bool (decide (a0.kind > 4))) (by first | exact wanted_f rfl rfl rfl | exact wanted_vf rfl rfl rfl) ?_ ?_
    · intro hc Φ hΦ; (repeat (first | rw [vg_of hc] | rw [vg_of (and_l hc)] | rw [vg_of (and_l (and_l hc))] | rw [vg_of (and_l (and_l (and_l hc)))] | rw [vg_and hc])); refine O_bin rfl rfl rfl eqg_int r_gtr ?_; exact hΦ
    (try simp only [PT])
    apply seq_op (V := .bool ((decide (a0.kind < 1)) || (decide (a0.kind > 4)))) rfl
    · exact fun _ h => G_or _ _ _ rfl rfl rfl rfl h
    (try simp only [PT])
    apply seq_op (V := .bool ((decide (a0.kind < 1)) || (decide (a0.kind > 4)))) rfl
    · exact fun _ h => O_mv rfl rfl h
    (try simp only [PT])
    refine seq_opg (c := (!((decide (a0.kind < 1)) || (decide (a0.kind > 4))))) (V := .pointer (some ⟨b2, 1, none⟩)) (by first | exact wanted_f rfl rfl rfl | exact wanted_vf rfl rfl rfl) ?_ ?_
    · intro hc Φ hΦ; refine O_fld rfl Tryd.underlying73 rfl (Tryd.sizeOf3 _) rfl ?_; exact hΦ
    (try simp only [PT])
    refine seq_opg (c := (!((decide (a0.kind < 1)) || (decide (a0.kind > 4))))) (V := .int .i64 a0.proc) (by first | exact wanted_f rfl rfl rfl | exact wanted_vf rfl rfl rfl) ?_ ?_
    · intro hc Φ hΦ; (repeat (first | rw [vg_of hc] | rw [vg_of (and_l hc)] | rw [vg_of (and_l (and_l hc))] | rw [vg_of (and_l (and_l (and_l hc)))] | rw [vg_and hc])); refine L_1 0 _ _ rfl (Tryd.isAgg3 _) rfl H rfl rfl ?_; exact hΦ
    (try simp only [PT])
    refine seq_opg (c := (!((decide (a0.kind < 1)) || (decide (a0.kind > 4))))) (V := .bool (decide (a0.proc < 0))) (by first | exact wanted_f rfl rfl rfl | exact wanted_vf rfl rfl rfl) ?_ ?_
    · intro hc Φ hΦ; (repeat (first | rw [vg_of hc] | rw [vg_of (and_l hc)] | rw [vg_of (and_l (and_l hc))] | rw [vg_of (and_l (and_l (and_l hc)))] | rw [vg_and hc])); refine O_bin rfl rfl rfl eqg_int r_lss ?_; exact hΦ
    (try simp only [PT])
    apply seq_op (V := .bool (((decide (a0.kind < 1)) || (decide (a0.kind > 4))) || (decide (a0.proc < 0)))) rfl
    · exact fun _ h => G_or _ _ _ rfl rfl rfl rfl h
    (try simp only [PT])
    apply seq_op (V := .bool (((decide (a0.kind < 1)) || (decide (a0.kind > 4))) || (decide (a0.proc < 0)))) rfl
    · exact fun _ h => O_mv rfl rfl h
    (try simp only [PT])
    refine seq_opg (c := (!(((decide (a0.kind < 1)) || (decide (a0.kind > 4))) || (decide (a0.proc < 0))))) (V := .pointer (some ⟨b2, 1, none⟩)) (by first | exact wanted_f rfl rfl rfl | exact wanted_vf rfl rfl rfl) ?_ ?_
    · intro hc Φ hΦ; refine O_fld rfl Tryd.underlying73 rfl (Tryd.sizeOf3 _) rfl ?_; exact hΦ
    (try simp only [PT])
    refine seq_opg (c := (!(((decide (a0.kind < 1)) || (decide (a0.kind > 4))) || (decide (a0.proc < 0))))) (V := .int .i64 a0.proc) (by first | exact wanted_f rfl rfl rfl | exact wanted_vf rfl rfl rfl) ?_ ?_
    · intro hc Φ hΦ; (repeat (first | rw [vg_of hc] | rw [vg_of (and_l hc)] | rw [vg_of (and_l (and_l hc))] | rw [vg_of (and_l (and_l (and_l hc)))] | rw [vg_and hc])); refine L_1 0 _ _ rfl (Tryd.isAgg3 _) rfl H rfl rfl ?_; exact hΦ
    (try simp only [PT])
    refine seq_opg (c := (!(((decide (a0.kind < 1)) || (decide (a0.kind > 4))) || (decide (a0.proc < 0))))) (V := .bool (decide (a0.proc > 99))) (by first | exact wanted_f rfl rfl rfl | exact wanted_vf rfl rfl rfl) ?_ ?_
    · intro hc Φ hΦ; (repeat (first | rw [vg_of hc] | rw [vg_of (and_l hc)] | rw [vg_of (and_l (and_l hc))] | rw [vg_of (and_l (and_l (and_l hc)))] | rw [vg_and hc])); refine O_bin rfl rfl rfl eqg_int r_gtr ?_; exact hΦ
    (try simp only [PT])
    apply seq_op (V := .bool ((((decide (a0.kind < 1)) || (decide (a0.kind > 4))) || (decide (a0.proc < 0))) || (decide (a0.proc > 99)))) rfl
    · exact fun _ h => G_or _ _ _ rfl rfl rfl rfl h
    (try simp only [PT])
    apply seq_op (V := .bool ((((decide (a0.kind < 1)) || (decide (a0.kind > 4))) || (decide (a0.proc < 0))) || (decide (a0.proc > 99)))) rfl
    · exact fun _ h => O_mv rfl rfl h
    (try simp only [PT])
    refine seq_opg (c := (!((((decide (a0.kind < 1)) || (decide (a0.kind > 4))) || (decide (a0.proc < 0))) || (decide (a0.proc > 99))))) (V := .pointer (some ⟨b2, 2, none⟩)) (by first | exact wanted_f rfl rfl rfl | exact wanted_vf rfl rfl rfl) ?_ ?_
    · intro hc Φ hΦ; refine O_fld rfl Tryd.underlying73 rfl (Tryd.sizeOf71 _) rfl ?_; exact hΦ
    (try simp only [PT])
    refine seq_opg (c := (!((((decide (a0.kind < 1)) || (decide (a0.kind > 4))) || (decide (a0.proc < 0))) || (decide (a0.proc > 99))))) (V := .slice A_p0_ops a0.ops.length c_p0_ops) (by first | exact wanted_f rfl rfl rfl | exact wanted_vf rfl rfl rfl) ?_ ?_
    · intro hc Φ hΦ; (repeat (first | rw [vg_of hc] | rw [vg_of (and_l hc)] | rw [vg_of (and_l (and_l hc))] | rw [vg_of (and_l (and_l (and_l hc)))] | rw [vg_and hc])); refine L_1 0 _ _ rfl (Tryd.isAgg71 _) rfl H rfl rfl ?_; exact hΦ
    (try simp only [PT])
    refine seq_opg (c := (!((((decide (a0.kind < 1)) || (decide (a0.kind > 4))) || (decide (a0.proc < 0))) || (decide (a0.proc > 99))))) (V := .int .i64 (a0.ops.length : Int)) (by first | exact wanted_f rfl rfl rfl | exact wanted_vf rfl rfl rfl) ?_ ?_
    · intro hc Φ hΦ; (repeat (first | rw [vg_of hc] | rw [vg_of (and_l hc)] | rw [vg_of (and_l (and_l hc))] | rw [vg_of (and_l (and_l (and_l hc)))] | rw [vg_and hc])); refine O_len rfl Tryd.underlying71 rfl ?_; exact hΦ
    (try simp only [PT])
    refine seq_opg (c := (!((((decide (a0.kind < 1)) || (decide (a0.kind > 4))) || (decide (a0.proc < 0))) || (decide (a0.proc > 99))))) (V := .bool (decide ((a0.ops.length : Int) < 1))) (by first | exact wanted_f rfl rfl rfl | exact wanted_vf rfl rfl rfl) ?_ ?_
    · intro hc Φ hΦ; (repeat (first | rw [vg_of hc] | rw [vg_of (and_l hc)] | rw [vg_of (and_l (and_l hc))] | rw [vg_of (and_l (and_l (and_l hc)))] | rw [vg_and hc])); refine O_bin rfl rfl rfl eqg_int r_lss ?_; exact hΦ
    (try simp only [PT])
    apply seq_op (V := .bool (((((decide (a0.kind < 1)) || (decide (a0.kind > 4))) || (decide (a0.proc < 0))) || (decide (a0.proc > 99))) || (decide ((a0.ops.length : Int) < 1)))) rfl
    · exact fun _ h => G_or _ _ _ rfl rfl rfl rfl h
    (try simp only [PT])
    apply seq_op (V := .bool (((((decide (a0.kind < 1)) || (decide (a0.kind > 4))) || (decide (a0.proc < 0))) || (decide (a0.proc > 99))) || (decide ((a0.ops.length : Int) < 1)))) rfl
    · exact fun _ h => O_mv rfl rfl h
    (try simp only [PT])
    refine seq_opg (c := (!(((((decide (a0.kind < 1)) || (decide (a0.kind > 4))) || (decide (a0.proc < 0))) || (decide (a0.proc > 99))) || (decide ((a0.ops.length : Int) < 1))))) (V := .pointer (some ⟨b2, 2, none⟩)) (by first | exact wanted_f rfl rfl rfl | exact wanted_vf rfl rfl rfl) ?_ ?_
    · intro hc Φ hΦ; refine O_fld rfl Tryd.underlying73 rfl (Tryd.sizeOf71 _) rfl ?_; exact hΦ
    (try simp only [PT])
    refine seq_opg (c := (!(((((decide (a0.kind < 1)) || (decide (a0.kind > 4))) || (decide (a0.proc < 0))) || (decide (a0.proc > 99))) || (decide ((a0.ops.length : Int) < 1))))) (V := .slice A_p0_ops a0.ops.length c_p0_ops) (by first | exact wanted_f rfl rfl rfl | exact wanted_vf rfl rfl rfl) ?_ ?_
    · intro hc Φ hΦ; (repeat (first | rw [vg_of hc] | rw [vg_of (and_l hc)] | rw [vg_of (and_l (and_l hc))] | rw [vg_of (and_l (and_l (and_l hc)))] | rw [vg_and hc])); refine L_1 0 _ _ rfl (Tryd.isAgg71 _) rfl H rfl rfl ?_; exact hΦ
    (try simp only [PT])
    refine seq_opg (c := (!(((((decide (a0.kind < 1)) || (decide (a0.kind > 4))) || (decide (a0.proc < 0))) || (decide (a0.proc > 99))) || (decide ((a0.ops.length : Int) < 1))))) (V := .int .i64 (a0.ops.length : Int)) (by first | exact wanted_f rfl rfl rfl | exact wanted_vf rfl rfl rfl) ?_ ?_
    · intro hc Φ hΦ; (repeat (first | rw [vg_of hc] | rw [vg_of (and_l hc)] | rw [vg_of (and_l (and_l hc))] | rw [vg_of (and_l (and_l (and_l hc)))] | rw [vg_and hc])); refine O_len rfl Tryd.underlying71 rfl ?_; exact hΦ
    (try simp only [PT])
    refine seq_opg (c := (!(((((decide (a0.kind < 1)) || (decide (a0.kind > 4))) || (decide (a0.proc < 0))) || (decide (a0.proc > 99))) || (decide ((a0.ops.length : Int) < 1))))) (V := .bool (decide ((a0.ops.length : Int) > 8))) (by first | exact wanted_f rfl rfl rfl | exact wanted_vf rfl rfl rfl) ?_ ?_
    · intro hc Φ hΦ; (repeat (first | rw [vg_of hc] | rw [vg_of (and_l hc)] | rw [vg_of (and_l (and_l hc))] | rw [vg_of (and_l (and_l (and_l hc)))] | rw [vg_and hc])); refine O_bin rfl rfl rfl eqg_int r_gtr ?_; exact hΦ
    (try simp only [PT])
    apply seq_op (V := .bool ((((((decide (a0.kind < 1)) || (decide (a0.kind > 4))) || (decide (a0.proc < 0))) || (decide (a0.proc > 99))) || (decide ((a0.ops.length : Int) < 1))) || (decide ((a0.ops.length : Int) > 8)))) rfl
    · exact fun _ h => G_or _ _ _ rfl rfl rfl rfl h
    (try simp only [PT])
    apply seq_op (V := .bool ((((((decide (a0.kind < 1)) || (decide (a0.kind > 4))) || (decide (a0.proc < 0))) || (decide (a0.proc > 99))) || (decide ((a0.ops.length : Int) < 1))) || (decide ((a0.ops.length : Int) > 8)))) rfl
    · exact fun _ h => O_mv rfl rfl h
    (try simp only [PT])
    refine seq_opw (V := .pointer (some ⟨b2, 2, none⟩)) ((wanted_f rfl rfl rfl).trans (congrArg not hg1)) ?_ ?_
    · exact fun _ h => O_fld rfl Tryd.underlying73 rfl (Tryd.sizeOf71 _) rfl h
    (try simp only [PT])
    refine seq_opw (V := .slice A_p0_ops a0.ops.length c_p0_ops) ((wanted_f rfl rfl rfl).trans (congrArg not hg1)) ?_ ?_
    · exact fun _ h => L_1 0 _ _ rfl (Tryd.isAgg71 _) rfl H rfl rfl h
    (try simp only [PT])
    refine seq_opw (V := .func (.func 149) #[] #[]) ((wanted_f rfl rfl rfl).trans (congrArg not hg1)) ?_ ?_
    · exact fun _ h => G_s1 _ _ rfl (Tryd.isAgg160 _) rfl H hC_p1 0 rfl rfl h
    (try simp only [PT])
    refine seq_callw ((wanted_f rfl rfl rfl).trans (congrArg not hg1)) (fun Φ hΦ => by refine O_call2 rfl Tryd.func153 rfl rfl rfl rfl hΦ) (slices_ContainsFunc_Op_histtext_Can_1_w (a0 := a0.ops) (h_p0 := h_p0_ops) (hm := gx1) (H := H)) ?_
    clear H
    rintro e w1 ⟨rfl, H⟩; refine ⟨_, rfl, ?_⟩
    (try simp only [PT])
    apply seq_op (V := .bool u1) rfl
    · exact fun _ h => O_pickF rfl rfl hg1 rfl h
    (try simp only [PT])
    apply seq_op (V := .bool u1) rfl
    · exact fun _ h => O_as rfl rfl h
    (try simp only [PT])
    refine list_end ?_
    refine then_norm ?_
    refine wp_ret ?_
    have hm := Option.some.inj hm
    subst hm
    replace H := H.dropAt 0 rfl; simp only [List.eraseIdx_cons_succ, List.eraseIdx_cons_zero] at H
    exact ret1 rfl (rv_tmp rfl) rfl ⟨rfl, H⟩
def slices_IndexFunc_Event_histtext_Can_2_l2  : Nat → List Ev → Option ((Int ⊕ Unit))
  | k2, []  => some (.inr ())
  | k2, x2 :: r2 => (histtext_Can_2_f x2).bind fun u1 => if u1 = true then (some (.inl (k2 : Int))) else (slices_IndexFunc_Event_histtext_Can_2_l2 (k2 + 1) r2)

def slices_IndexFunc_Event_histtext_Can_2_f (a0 : List Ev) : Option Int := (slices_IndexFunc_Event_histtext_Can_2_l2 0 a0).bind fun | .inl z2_r => (some z2_r) | .inr () => (some (-1))

set_option maxHeartbeats 4000000 in
theorem slices_IndexFunc_Event_histtext_Can_2_w {E : World} {s : SH} {L : List HP} {w : World} {a0 : List Ev} {A_p0 : Option Addr} {c_p0 : Nat} (h_p0 : kEv.Sl s (.slice A_p0 a0.length c_p0) a0) {b_p1c0 o_p1c0 : Nat} (hC_p1c0 : Cells s ⟨b_p1c0, o_p1c0, none⟩ [.func (.func 149) #[] #[]]) {R : Int} (hm : slices_IndexFunc_Event_histtext_Can_2_f a0 = some R) (H : Holds E s (L) w) :
    Calls Tryd.prog 173 #[.slice A_p0 a0.length c_p0, .func (.func 152) #[] #[.pointer (some ⟨b_p1c0, o_p1c0, none⟩)]] w fun e w' => e = .returned (.int .i64 R) ∧ Holds E s (L) w' := by
  unfold slices_IndexFunc_Event_histtext_Can_2_f at hm
  go_enter Tryd.func173, Tryd.ntmps173
  refine wp_seq ?_
  refine wp_region_lit ?_
  apply seq_op (V := .int .i64 0) rfl
  · exact fun _ h => O_as rfl rfl h
  (try simp only [PT])
  refine list_end ?_
  refine then_norm ?_
  refine wp_seq ?_
  refine wp_seq ?_
  refine wp_region_lit ?_
  apply seq_op (V := .slice A_p0 a0.length c_p0) rfl
  · exact fun _ h => O_mv rfl rfl h
  (try simp only [PT])
  apply seq_op (V := .int .i64 (a0.length : Int)) rfl
  · exact fun _ h => O_len rfl Tryd.underlying55 rfl h
  (try simp only [PT])
  apply seq_op (V := .int .i64 0) rfl
  · exact fun _ h => O_mv rfl rfl h
  (try simp only [PT])
  refine list_end ?_
  refine then_norm ?_
  refine wp_block ?_
  obtain ⟨R2, hq2, hm⟩ := bs hm
  have hn2 := Nat.le_trans (len_le (d := kEv) h_p0 (by decide)) (by decide : (140737488355328 : Nat) ≤ 9223372036854775807)
  refine wp_loopF [none, none, none, none, some 4, some 5, none, none, some 8, some 9, some 10, some 11, some 12, some 13, some 14, some 15, some 16, some 17, some 18] rfl (by simp) (fun f w => ∃ (k2 : Nat) (r2 : List Ev), a0.drop k2 = r2 ∧ f 8 = .int .i64 (k2 : Int) ∧ slices_IndexFunc_Event_histtext_Can_2_l2 k2 r2 = some R2 ∧ Holds E s (L) w) (fun f w => a0.length - (intOf (f 8)).toNat) ?_ ?_
  · exact ⟨0, a0, rfl, rfl, hq2, H⟩
  · clear H
    intro f w hI
    obtain ⟨k2, r2, hd2, hf8, hq2', H⟩ := hI
    clear hq2; have hq2 := hq2'; clear hq2'
    simp only [ovm, mixM]
    simp only [hf8]; clear hf8
    refine wp_seq ?_
    refine wp_region_lit ?_
    apply seq_op (V := .bool (decide ((k2 : Int) < (a0.length : Int)))) rfl
    · exact fun _ h => O_bin rfl rfl rfl eqg_int r_lss h
    (try simp only [PT])
    refine list_end ?_
    refine then_norm ?_
    refine wp_seq ?_
    refine wp_cond_split rfl (fun hc => ?_) (fun hc => ?_)
    · have hc1 := hc
      clear hc
      obtain ⟨x2, r2', rfl, hd2', hd2'', hl2⟩ := rng_t hd2 hc1
      rw [slices_IndexFunc_Event_histtext_Can_2_l2] at hq2
      refine wp_skip ?_
      refine then_norm ?_
      refine wp_seq ?_
      refine wp_block ?_
      refine wp_seq ?_
      refine wp_region_lit ?_
      apply seq_op (V := .int .i64 (k2 : Int)) rfl
      · exact fun _ h => O_mv rfl rfl h
      (try simp only [PT])
      apply seq_op (V := .int .i64 (k2 : Int)) rfl
      · exact fun _ h => O_as rfl rfl h
      (try simp only [PT])
      refine list_end ?_
      refine then_norm ?_
      refine wp_seq ?_
      obtain ⟨be1, oe1, A2e1, c2e1, rfl, hCe1, h0e1, h1e1, h2e1⟩ := kEv_el h_p0 hd2'
      obtain ⟨u1, gx1, hq2⟩ := bs hq2
      refine wp_region_lit ?_
      apply seq_op (V := .func (.func 152) #[] #[.pointer (some ⟨b_p1c0, o_p1c0, none⟩)]) rfl
      · exact fun _ h => O_mv rfl rfl h
      (try simp only [PT])
      apply seq_op (V := .slice (some ⟨be1, oe1, none⟩) a0.length c_p0) rfl
      · exact fun _ h => O_mv rfl rfl h
      (try simp only [PT])
      apply seq_op (V := .int .i64 (k2 : Int)) rfl
      · exact fun _ h => O_mv rfl rfl h
      (try simp only [PT])
      apply seq_op (V := .pointer (some ⟨be1, oe1 + k2 * 3, none⟩)) rfl
      · exact fun _ h => O_ix rfl Tryd.underlying55 (Tryd.sizeOf73 _) rfl rfl rfl hl2 h
      (try simp only [PT])
      apply seq_op (V := .agg #[.int .i64 x2.kind, .int .i64 x2.proc, .slice A2e1 x2.ops.length c2e1]) rfl
      · exact fun _ h => G_sN _ _ rfl (Tryd.isAgg73 _) rfl H hCe1 (Tryd.sizeOf73 _) h
      (try simp only [PT])
      refine seq_call rfl (fun Φ hΦ => by refine O_callv1 (v1 := .agg #[.int .i64 x2.kind, .int .i64 x2.proc, .slice A2e1 x2.ops.length c2e1]) rfl Tryd.func152 rfl rfl rfl rfl (by simp only [List.push_toArray, List.append_toArray, List.cons_append, List.nil_append]) hΦ) (histtext_Can_2_w (a0 := x2) (h_p0_ops := h2e1) (hC_p1 := hC_p1c0) (hm := gx1) (H := H)) ?_
      clear H
      rintro e w1 ⟨rfl, H⟩; refine ⟨_, rfl, ?_⟩
      (try simp only [PT])
      refine list_end ?_
      refine then_norm ?_
      refine wp_cond_split rfl (fun hc => ?_) (fun hc => ?_)
      · have hc2 := hc
        clear hc
        replace hq2 := ifT hc2 hq2
        refine wp_seq ?_
        refine wp_region_lit ?_
        apply seq_op (V := .int .i64 (k2 : Int)) rfl
        · exact fun _ h => O_mv rfl rfl h
        (try simp only [PT])
        apply seq_op (V := .int .i64 (k2 : Int)) rfl
        · exact fun _ h => O_as rfl rfl h
        (try simp only [PT])
        refine list_end ?_
        refine then_norm ?_
        refine wp_ret ?_
        refine block_ret ?_
        refine then_ret ?_
        refine then_ret ?_
        refine block_ret ?_
        refine then_ret ?_
        have hq2 := Option.some.inj hq2
        subst hq2
        (try dsimp only at hm)
        have hm := Option.some.inj hm
        subst hm
        exact ret1 rfl (rv_tmp rfl) rfl ⟨rfl, H⟩
      · have hc2 := hc
        clear hc
        replace hq2 := ifF hc2 hq2
        refine wp_skip ?_
        refine block_norm ?_
        refine then_norm ?_
        refine wp_region_lit ?_
        apply seq_op (V := .int .i64 (IntKind.i64.wrap ((k2 : Int) + 1))) rfl
        · exact fun _ h => O_bin rfl rfl rfl eqg_int r_add h
        (try simp only [PT])
        apply seq_op (V := .int .i64 (IntKind.i64.wrap ((k2 : Int) + 1))) rfl
        · exact fun _ h => O_mv rfl rfl h
        (try simp only [PT])
        refine list_end ?_
        refine then_norm ?_
        refine ⟨⟨⟨rfl, rfl, rfl, rfl, rfl, rfl, rfl⟩, rfl⟩, ⟨k2 + 1, _, hd2'', wrap_succ hl2 hn2, hq2, H⟩, ?_⟩
        exact meas_succ hl2 hn2
    · have hc1 := hc
      clear hc
      obtain rfl := rng_f hd2 hc1
      rw [slices_IndexFunc_Event_histtext_Can_2_l2] at hq2
      refine wp_exit ?_
      refine then_exit ?_
      refine then_exit ?_
      have hq2 := Option.some.inj hq2
      subst hq2
      (try dsimp only at hm)
      refine block_exit ?_
      refine then_norm ?_
      refine wp_seq ?_
      refine wp_region_lit ?_
      apply seq_op (V := .int .i64 (-1)) rfl
      · exact fun _ h => O_as rfl rfl h
      (try simp only [PT])
      refine list_end ?_
      refine then_norm ?_
      refine wp_ret ?_
      have hm := Option.some.inj hm
      subst hm
      exact ret1 rfl (rv_tmp rfl) rfl ⟨rfl, H⟩
def slices_ContainsFunc_Event_histtext_Can_2_f (a0 : List Ev) : Option Bool := (slices_IndexFunc_Event_histtext_Can_2_f a0).bind fun u1 => some (decide (u1 ≥ 0))

set_option maxHeartbeats 4000000 in
theorem slices_ContainsFunc_Event_histtext_Can_2_w {E : World} {s : SH} {L : List HP} {w : World} {a0 : List Ev} {A_p0 : Option Addr} {c_p0 : Nat} (h_p0 : kEv.Sl s (.slice A_p0 a0.length c_p0) a0) {b_p1c0 o_p1c0 : Nat} (hC_p1c0 : Cells s ⟨b_p1c0, o_p1c0, none⟩ [.func (.func 149) #[] #[]]) {R : Bool} (hm : slices_ContainsFunc_Event_histtext_Can_2_f a0 = some R) (H : Holds E s (L) w) :
    Calls Tryd.prog 151 #[.slice A_p0 a0.length c_p0, .func (.func 152) #[] #[.pointer (some ⟨b_p1c0, o_p1c0, none⟩)]] w fun e w' => e = .returned (.bool R) ∧ Holds E s (L) w' := by
  unfold slices_ContainsFunc_Event_histtext_Can_2_f at hm
  go_enter Tryd.func151, Tryd.ntmps151
  refine wp_seq ?_
  refine wp_region_lit ?_
  apply seq_op (V := .bool false) rfl
  · exact fun _ h => O_as rfl rfl h
  (try simp only [PT])
  refine list_end ?_
  refine then_norm ?_
  refine wp_seq ?_
  obtain ⟨u1, gx1, hm⟩ := bs hm
  refine wp_region_lit ?_
  apply seq_op (V := .slice A_p0 a0.length c_p0) rfl
  · exact fun _ h => O_mv rfl rfl h
  (try simp only [PT])
  apply seq_op (V := .func (.func 152) #[] #[.pointer (some ⟨b_p1c0, o_p1c0, none⟩)]) rfl
  · exact fun _ h => O_mv rfl rfl h
  (try simp only [PT])
  refine seq_call rfl (fun Φ hΦ => by refine O_call2 rfl Tryd.func173 rfl rfl rfl rfl hΦ) (slices_IndexFunc_Event_histtext_Can_2_w (a0 := a0) (h_p0 := h_p0) (hC_p1c0 := hC_p1c0) (hm := gx1) (H := H)) ?_
  clear H
  rintro e w1 ⟨rfl, H⟩; refine ⟨_, rfl, ?_⟩
  (try simp only [PT])
  apply seq_op (V := .bool (decide (u1 ≥ 0))) rfl
  · exact fun _ h => O_bin rfl rfl rfl eqg_int r_geq h
  (try simp only [PT])
  apply seq_op (V := .bool (decide (u1 ≥ 0))) rfl
  · exact fun _ h => O_as rfl rfl h
  (try simp only [PT])
  refine list_end ?_
  refine then_norm ?_
  refine wp_ret ?_
  have hm := Option.some.inj hm
  subst hm
  exact ret1 rfl (rv_tmp rfl) rfl ⟨rfl, H⟩
def histtext_Can_f (a0 : List Ev) : Option Bool := if (decide ((a0.length : Int) ≤ 300)) = true then ((slices_ContainsFunc_Event_histtext_Can_2_f a0).bind fun u1 => some (!u1)) else (some false)

set_option maxHeartbeats 4000000 in
theorem histtext_Can_w {E : World} {s : SH} {L : List HP} {w : World} {a0 : List Ev} {A_p0 : Option Addr} {c_p0 : Nat} (h_p0 : kEv.Sl s (.slice A_p0 a0.length c_p0) a0) {R : Bool} (hm : histtext_Can_f a0 = some R) (H : Holds E s (L) w) :
    Calls Tryd.prog 116 #[.slice A_p0 a0.length c_p0] w fun e w' => e = .returned (.bool R) ∧ Holds E s (L) w' := by
  unfold histtext_Can_f at hm
  go_enter Tryd.func116, Tryd.ntmps116
  refine wp_seq ?_
  refine wp_region_lit ?_
  apply seq_op (V := .bool false) rfl
  · exact fun _ h => O_as rfl rfl h
  (try simp only [PT])
  refine list_end ?_
  refine then_norm ?_
  refine wp_seq ?_
  refine wp_region_lit ?_
  refine OpG.list rfl ?_; refine G_alloc 160 rfl (Tryd.zeroValue160 _) H ?_; clear H; intro b3 w1 H; (try simp only [Value.cells] at H)
  (try simp only [PT])
  refine OpG.list rfl ?_; refine S_1f 0 _ _ rfl (Tryd.sizeOf160 _) rfl  H rfl ?_ ?_ ?_; (focus (first | rfl | (simp [Value.oneCell']; done))); (focus (simp; done)); clear H; intro w1 H; simp only [List.set_cons_succ, List.set_cons_zero] at H
  (try simp only [PT])
  refine list_end ?_
  refine then_norm ?_
  refine wp_seq ?_
  rcases Bool.eq_false_or_eq_true (decide ((a0.length : Int) ≤ 300)) with hg1 | hg1
  · replace hm := ifT hg1 hm
    obtain ⟨u1, gx1, hm⟩ := bs hm
    refine wp_region_lit ?_
    apply seq_op (V := .slice A_p0 a0.length c_p0) rfl
    · exact fun _ h => O_mv rfl rfl h
    (try simp only [PT])
    apply seq_op (V := .int .i64 (a0.length : Int)) rfl
    · exact fun _ h => O_len rfl Tryd.underlying55 rfl h
    (try simp only [PT])
    apply seq_op (V := .bool (decide ((a0.length : Int) ≤ 300))) rfl
    · exact fun _ h => O_bin rfl rfl rfl eqg_int r_leq h
    (try simp only [PT])
    apply seq_op (V := .bool (decide ((a0.length : Int) ≤ 300))) rfl
    · exact fun _ h => O_mv rfl rfl h
    (try simp only [PT])
    refine seq_opw (V := .slice A_p0 a0.length c_p0) ((wanted_t rfl rfl rfl).trans hg1) ?_ ?_
    · exact fun _ h => O_mv rfl rfl h
    (try simp only [PT])
    refine seq_opw (V := .func (.func 152) #[] #[.pointer (some ⟨b3, 0, none⟩)]) ((wanted_t rfl rfl rfl).trans hg1) ?_ ?_
    · intro Φ hΦ; refine O_mkf (vs := #[.pointer (some ⟨b3, 0, none⟩)]) rfl (by (simp only [List.map_toArray, List.map_cons, List.map_nil]) <;> rfl) ?_; exact hΦ
    (try simp only [PT])
    refine seq_opHw (V := .bool u1) H ((wanted_t rfl rfl rfl).trans hg1) ?_ ?_
    · intro Φ hΦ; refine O_call2 rfl Tryd.func151 rfl rfl rfl rfl ?_; obtain ⟨sl0, hsl0, hb0, H, bk0, bg0⟩ := lendAt 0 rfl H; simp only [List.eraseIdx_cons_succ, List.eraseIdx_cons_zero, List.cons_append] at H bk0; refine (slices_ContainsFunc_Event_histtext_Can_2_w (a0 := a0) (h_p0 := (h_p0.mono hsl0)) (hC_p1c0 := (Cells.ofB hb0)) (hm := gx1) (H := H)).mono ?_; rintro e w2 ⟨rfl, H⟩; have H := bk0 H; exact ⟨_, rfl, hΦ _ H⟩
    clear H; intro w1 H
    (try simp only [PT])
    refine seq_opw (V := .bool (!u1)) ((wanted_t rfl rfl rfl).trans hg1) ?_ ?_
    · exact fun _ h => O_not rfl rfl h
    (try simp only [PT])
    apply seq_op (V := .bool (!u1)) rfl
    · exact fun _ h => O_pickT rfl rfl hg1 rfl h
    (try simp only [PT])
    apply seq_op (V := .bool (!u1)) rfl
    · exact fun _ h => O_as rfl rfl h
    (try simp only [PT])
    refine list_end ?_
    refine then_norm ?_
    refine wp_ret ?_
    have hm := Option.some.inj hm
    subst hm
    replace H := H.dropAt 0 rfl; simp only [List.eraseIdx_cons_succ, List.eraseIdx_cons_zero] at H
    exact ret1 rfl (rv_tmp rfl) rfl ⟨rfl, H⟩
  · replace hm := ifF hg1 hm
    refine wp_region_lit ?_
    apply seq_op (V := .slice A_p0 a0.length c_p0) rfl
    · exact fun _ h => O_mv rfl rfl h
    (try simp only [PT])
    apply seq_op (V := .int .i64 (a0.length : Int)) rfl
    · exact fun _ h => O_len rfl Tryd.underlying55 rfl h
    (try simp only [PT])
    apply seq_op (V := .bool (decide ((a0.length : Int) ≤ 300))) rfl
    · exact fun _ h => O_bin rfl rfl rfl eqg_int r_leq h
    (try simp only [PT])
    apply seq_op (V := .bool (decide ((a0.length : Int) ≤ 300))) rfl
    · exact fun _ h => O_mv rfl rfl h
    (try simp only [PT])
    refine seq_skip ((wanted_t rfl rfl rfl).trans hg1) ?_
    (try simp only [PT])
    refine seq_skip ((wanted_t rfl rfl rfl).trans hg1) ?_
    (try simp only [PT])
    refine seq_skip ((wanted_t rfl rfl rfl).trans hg1) ?_
    (try simp only [PT])
    refine seq_skip ((wanted_t rfl rfl rfl).trans hg1) ?_
    (try simp only [PT])
    apply seq_op (V := .bool false) rfl
    · exact fun _ h => O_pickF rfl rfl hg1 rfl h
    (try simp only [PT])
    apply seq_op (V := .bool false) rfl
    · exact fun _ h => O_as rfl rfl h
    (try simp only [PT])
    refine list_end ?_
    refine then_norm ?_
    refine wp_ret ?_
    have hm := Option.some.inj hm
    subst hm
    replace H := H.dropAt 0 rfl; simp only [List.eraseIdx_cons_succ, List.eraseIdx_cons_zero] at H
    exact ret1 rfl (rv_tmp rfl) rfl ⟨rfl, H⟩
def pair_reads_f (a0 : Op') : Bool := ((a0.kind == 2) || (a0.kind == 4))

set_option maxHeartbeats 4000000 in
theorem pair_reads_w {E : World} {s : SH} {L : List HP} {w : World} {a0 : Op'} {A_p0_list : Option Addr} {c_p0_list : Nat} (h_p0_list : kI.Sl s (.slice A_p0_list a0.list.length c_p0_list) a0.list) (H : Holds E s (L) w) :
    Calls Tryd.prog 155 #[.agg #[.int .i64 a0.kind, .string a0.key, .int .i64 a0.value, .slice A_p0_list a0.list.length c_p0_list, .bool a0.has, .bool a0.isNil]] w fun e w' => e = .returned (.bool (pair_reads_f a0)) ∧ Holds E s (L) w' := by
  obtain ⟨R, hm⟩ : ∃ R, pair_reads_f a0 = R := ⟨_, rfl⟩
  (try rw [hm])
  unfold pair_reads_f at hm
  go_enter Tryd.func155, Tryd.ntmps155
  refine wp_seq ?_
  refine wp_region_lit ?_
  refine OpG.list rfl ?_; refine B_x 108 _ rfl (v := .agg #[.int .i64 a0.kind, .string a0.key, .int .i64 a0.value, .slice A_p0_list a0.list.length c_p0_list, .bool a0.has, .bool a0.isNil]) rfl H ?_; clear H; intro b1 w1 H; (try simp only [Value.cells] at H)
  (try simp only [PT])
  apply seq_op (V := .bool false) rfl
  · exact fun _ h => O_as rfl rfl h
  (try simp only [PT])
  refine list_end ?_
  refine then_norm ?_
  refine wp_seq ?_
  refine wp_region_lit ?_
  apply seq_op (V := .pointer (some ⟨b1, 0, none⟩)) rfl
  · exact fun _ h => O_fld rfl Tryd.underlying108 rfl (Tryd.sizeOf3 _) rfl h
  (try simp only [PT])
  apply seq_op (V := .int .i64 a0.kind) rfl
  · exact fun _ h => L_1 0 _ _ rfl (Tryd.isAgg3 _) rfl H rfl rfl h
  (try simp only [PT])
  apply seq_op (V := .bool (a0.kind == 2)) rfl
  · exact fun _ h => O_bin rfl rfl rfl eqg_int r_eql h
  (try simp only [PT])
  apply seq_op (V := .bool (a0.kind == 2)) rfl
  · exact fun _ h => O_mv rfl rfl h
  (try simp only [PT])
  refine seq_opg (c := (!(a0.kind == 2))) (V := .pointer (some ⟨b1, 0, none⟩)) (by first | exact wanted_f rfl rfl rfl | exact wanted_vf rfl rfl rfl) ?_ ?_
  · intro hc Φ hΦ; refine O_fld rfl Tryd.underlying108 rfl (Tryd.sizeOf3 _) rfl ?_; exact hΦ
  (try simp only [PT])
  refine seq_opg (c := (!(a0.kind == 2))) (V := .int .i64 a0.kind) (by first | exact wanted_f rfl rfl rfl | exact wanted_vf rfl rfl rfl) ?_ ?_
  · intro hc Φ hΦ; (repeat (first | rw [vg_of hc] | rw [vg_of (and_l hc)] | rw [vg_of (and_l (and_l hc))] | rw [vg_of (and_l (and_l (and_l hc)))] | rw [vg_and hc])); refine L_1 0 _ _ rfl (Tryd.isAgg3 _) rfl H rfl rfl ?_; exact hΦ
  (try simp only [PT])
  refine seq_opg (c := (!(a0.kind == 2))) (V := .bool (a0.kind == 4)) (by first | exact wanted_f rfl rfl rfl | exact wanted_vf rfl rfl rfl) ?_ ?_
  · intro hc Φ hΦ; (repeat (first | rw [vg_of hc] | rw [vg_of (and_l hc)] | rw [vg_of (and_l (and_l hc))] | rw [vg_of (and_l (and_l (and_l hc)))] | rw [vg_and hc])); refine O_bin rfl rfl rfl eqg_int r_eql ?_; exact hΦ
  (try simp only [PT])
  apply seq_op (V := .bool ((a0.kind == 2) || (a0.kind == 4))) rfl
  · exact fun _ h => G_or _ _ _ rfl rfl rfl rfl h
  (try simp only [PT])
  apply seq_op (V := .bool ((a0.kind == 2) || (a0.kind == 4))) rfl
  · exact fun _ h => O_as rfl rfl h
  (try simp only [PT])
  refine list_end ?_
  refine then_norm ?_
  refine wp_ret ?_
  subst hm
  replace H := H.dropAt 0 rfl; simp only [List.eraseIdx_cons_succ, List.eraseIdx_cons_zero] at H
  exact ret1 rfl (rv_tmp rfl) rfl ⟨rfl, H⟩
def pair_table_event_1_f (a0 : Op') : Bool := ((pair_reads_f a0) && a0.has)

set_option maxHeartbeats 4000000 in
theorem pair_table_event_1_w {E : World} {s : SH} {L : List HP} {w : World} {a0 : Op'} {A_p0_list : Option Addr} {c_p0_list : Nat} (h_p0_list : kI.Sl s (.slice A_p0_list a0.list.length c_p0_list) a0.list) (H : Holds E s (L) w) :
    Calls Tryd.prog 154 #[.agg #[.int .i64 a0.kind, .string a0.key, .int .i64 a0.value, .slice A_p0_list a0.list.length c_p0_list, .bool a0.has, .bool a0.isNil]] w fun e w' => e = .returned (.bool (pair_table_event_1_f a0)) ∧ Holds E s (L) w' := by
  obtain ⟨R, hm⟩ : ∃ R, pair_table_event_1_f a0 = R := ⟨_, rfl⟩
  (try rw [hm])
  unfold pair_table_event_1_f at hm
  go_enter Tryd.func154, Tryd.ntmps154
  refine wp_seq ?_
  refine wp_region_lit ?_
  refine OpG.list rfl ?_; refine B_x 108 _ rfl (v := .agg #[.int .i64 a0.kind, .string a0.key, .int .i64 a0.value, .slice A_p0_list a0.list.length c_p0_list, .bool a0.has, .bool a0.isNil]) rfl H ?_; clear H; intro b1 w1 H; (try simp only [Value.cells] at H)
  (try simp only [PT])
  apply seq_op (V := .bool false) rfl
  · exact fun _ h => O_as rfl rfl h
  (try simp only [PT])
  refine list_end ?_
  refine then_norm ?_
  refine wp_seq ?_
  refine wp_region_lit ?_
  apply seq_op (V := .agg #[.int .i64 a0.kind, .string a0.key, .int .i64 a0.value, .slice A_p0_list a0.list.length c_p0_list, .bool a0.has, .bool a0.isNil]) rfl
  · exact fun _ h => G_pNi 0 _ _ rfl (Tryd.isAgg108 _) rfl H rfl (Tryd.sizeOf108 _) h
  (try simp only [PT])
  refine seq_call rfl (fun Φ hΦ => by refine O_call1 rfl Tryd.func155 rfl rfl rfl hΦ) (pair_reads_w (a0 := a0) (h_p0_list := h_p0_list) (H := H)) ?_
  clear H
  rintro e w1 ⟨rfl, H⟩; refine ⟨_, rfl, ?_⟩
  (try simp only [PT])
  apply seq_op (V := .bool (pair_reads_f a0)) rfl
  · exact fun _ h => O_mv rfl rfl h
  (try simp only [PT])
  refine seq_opg (c := (pair_reads_f a0)) (V := .pointer (some ⟨b1, 4, none⟩)) (by first | exact wanted_t rfl rfl rfl | exact wanted_vt rfl rfl rfl) ?_ ?_
  · intro hc Φ hΦ; refine O_fld rfl Tryd.underlying108 rfl (Tryd.sizeOf4 _) rfl ?_; exact hΦ
  (try simp only [PT])
  refine seq_opg (c := (pair_reads_f a0)) (V := .bool a0.has) (by first | exact wanted_t rfl rfl rfl | exact wanted_vt rfl rfl rfl) ?_ ?_
  · intro hc Φ hΦ; (repeat (first | rw [vg_of hc] | rw [vg_of (and_l hc)] | rw [vg_of (and_l (and_l hc))] | rw [vg_of (and_l (and_l (and_l hc)))] | rw [vg_and hc])); refine L_1 0 _ _ rfl (Tryd.isAgg4 _) rfl H rfl rfl ?_; exact hΦ
  (try simp only [PT])
  apply seq_op (V := .bool ((pair_reads_f a0) && a0.has)) rfl
  · exact fun _ h => G_and _ _ _ rfl rfl rfl rfl h
  (try simp only [PT])
  apply seq_op (V := .bool ((pair_reads_f a0) && a0.has)) rfl
  · exact fun _ h => O_as rfl rfl h
  (try simp only [PT])
  refine list_end ?_
  refine then_norm ?_
  refine wp_ret ?_
  subst hm
  replace H := H.dropAt 0 rfl; simp only [List.eraseIdx_cons_succ, List.eraseIdx_cons_zero] at H
  exact ret1 rfl (rv_tmp rfl) rfl ⟨rfl, H⟩
def slices_IndexFunc_Op_pair_table_event_1_l2  : Nat → List Op' → (Int ⊕ Unit)
  | k2, []  => .inr ()
  | k2, x2 :: r2 => if (pair_table_event_1_f x2) = true then (.inl (k2 : Int)) else (slices_IndexFunc_Op_pair_table_event_1_l2 (k2 + 1) r2)

def slices_IndexFunc_Op_pair_table_event_1_f (a0 : List Op') : Int := letF (slices_IndexFunc_Op_pair_table_event_1_l2 0 a0) fun | .inl z2_r => z2_r | .inr () => (-1)

set_option maxHeartbeats 4000000 in
theorem slices_IndexFunc_Op_pair_table_event_1_w {E : World} {s : SH} {L : List HP} {w : World} {a0 : List Op'} {A_p0 : Option Addr} {c_p0 : Nat} (h_p0 : kOp.Sl s (.slice A_p0 a0.length c_p0) a0) (H : Holds E s (L) w) :
    Calls Tryd.prog 174 #[.slice A_p0 a0.length c_p0, .func (.func 154) #[] #[]] w fun e w' => e = .returned (.int .i64 (slices_IndexFunc_Op_pair_table_event_1_f a0)) ∧ Holds E s (L) w' := by
  obtain ⟨R, hm⟩ : ∃ R, slices_IndexFunc_Op_pair_table_event_1_f a0 = R := ⟨_, rfl⟩
  (try rw [hm])
  unfold slices_IndexFunc_Op_pair_table_event_1_f at hm
  go_enter Tryd.func174, Tryd.ntmps174
  refine wp_seq ?_
  refine wp_region_lit ?_
  apply seq_op (V := .int .i64 0) rfl
  · exact fun _ h => O_as rfl rfl h
  (try simp only [PT])
  refine list_end ?_
  refine then_norm ?_
  refine wp_seq ?_
  refine wp_seq ?_
  refine wp_region_lit ?_
  apply seq_op (V := .slice A_p0 a0.length c_p0) rfl
  · exact fun _ h => O_mv rfl rfl h
  (try simp only [PT])
  apply seq_op (V := .int .i64 (a0.length : Int)) rfl
  · exact fun _ h => O_len rfl Tryd.underlying71 rfl h
  (try simp only [PT])
  apply seq_op (V := .int .i64 0) rfl
  · exact fun _ h => O_mv rfl rfl h
  (try simp only [PT])
  refine list_end ?_
  refine then_norm ?_
  refine wp_block ?_
  obtain ⟨R2, hq2, hm⟩ := lfe hm
  have hn2 := Nat.le_trans (len_le (d := kOp) h_p0 (by decide)) (by decide : (140737488355328 : Nat) ≤ 9223372036854775807)
  refine wp_loopF [none, none, none, none, some 4, some 5, none, none, some 8, some 9, some 10, some 11, some 12, some 13, some 14, some 15, some 16, some 17, some 18] rfl (by simp) (fun f w => ∃ (k2 : Nat) (r2 : List Op'), a0.drop k2 = r2 ∧ f 8 = .int .i64 (k2 : Int) ∧ slices_IndexFunc_Op_pair_table_event_1_l2 k2 r2 = R2 ∧ Holds E s (L) w) (fun f w => a0.length - (intOf (f 8)).toNat) ?_ ?_
  · exact ⟨0, a0, rfl, rfl, hq2, H⟩
  · clear H
    intro f w hI
    obtain ⟨k2, r2, hd2, hf8, hq2', H⟩ := hI
    clear hq2; have hq2 := hq2'; clear hq2'
    simp only [ovm, mixM]
    simp only [hf8]; clear hf8
    refine wp_seq ?_
    refine wp_region_lit ?_
    apply seq_op (V := .bool (decide ((k2 : Int) < (a0.length : Int)))) rfl
    · exact fun _ h => O_bin rfl rfl rfl eqg_int r_lss h
    (try simp only [PT])
    refine list_end ?_
    refine then_norm ?_
    refine wp_seq ?_
    refine wp_cond_split rfl (fun hc => ?_) (fun hc => ?_)
    · have hc1 := hc
      clear hc
      obtain ⟨x2, r2', rfl, hd2', hd2'', hl2⟩ := rng_t hd2 hc1
      rw [slices_IndexFunc_Op_pair_table_event_1_l2] at hq2
      refine wp_skip ?_
      refine then_norm ?_
      refine wp_seq ?_
      refine wp_block ?_
      refine wp_seq ?_
      refine wp_region_lit ?_
      apply seq_op (V := .int .i64 (k2 : Int)) rfl
      · exact fun _ h => O_mv rfl rfl h
      (try simp only [PT])
      apply seq_op (V := .int .i64 (k2 : Int)) rfl
      · exact fun _ h => O_as rfl rfl h
      (try simp only [PT])
      refine list_end ?_
      refine then_norm ?_
      refine wp_seq ?_
      obtain ⟨be1, oe1, A3e1, c3e1, rfl, hCe1, h0e1, h1e1, h2e1, h3e1⟩ := kOp_el h_p0 hd2'
      refine wp_region_lit ?_
      apply seq_op (V := .func (.func 154) #[] #[]) rfl
      · exact fun _ h => O_mv rfl rfl h
      (try simp only [PT])
      apply seq_op (V := .slice (some ⟨be1, oe1, none⟩) a0.length c_p0) rfl
      · exact fun _ h => O_mv rfl rfl h
      (try simp only [PT])
      apply seq_op (V := .int .i64 (k2 : Int)) rfl
      · exact fun _ h => O_mv rfl rfl h
      (try simp only [PT])
      apply seq_op (V := .pointer (some ⟨be1, oe1 + k2 * 6, none⟩)) rfl
      · exact fun _ h => O_ix rfl Tryd.underlying71 (Tryd.sizeOf108 _) rfl rfl rfl hl2 h
      (try simp only [PT])
      apply seq_op (V := .agg #[.int .i64 x2.kind, .string x2.key, .int .i64 x2.value, .slice A3e1 x2.list.length c3e1, .bool x2.has, .bool x2.isNil]) rfl
      · exact fun _ h => G_sN _ _ rfl (Tryd.isAgg108 _) rfl H hCe1 (Tryd.sizeOf108 _) h
      (try simp only [PT])
      refine seq_call rfl (fun Φ hΦ => by refine O_callv1 (args := #[.agg #[.int .i64 x2.kind, .string x2.key, .int .i64 x2.value, .slice A3e1 x2.list.length c3e1, .bool x2.has, .bool x2.isNil]]) (v1 := .agg #[.int .i64 x2.kind, .string x2.key, .int .i64 x2.value, .slice A3e1 x2.list.length c3e1, .bool x2.has, .bool x2.isNil]) rfl Tryd.func154 rfl rfl rfl rfl (by simp only [Array.append_empty]) hΦ) (pair_table_event_1_w (a0 := x2) (h_p0_list := h3e1) (H := H)) ?_
      clear H
      rintro e w1 ⟨rfl, H⟩; refine ⟨_, rfl, ?_⟩
      (try simp only [PT])
      refine list_end ?_
      refine then_norm ?_
      refine wp_cond_split rfl (fun hc => ?_) (fun hc => ?_)
      · have hc2 := hc
        clear hc
        replace hq2 := ifT hc2 hq2
        refine wp_seq ?_
        refine wp_region_lit ?_
        apply seq_op (V := .int .i64 (k2 : Int)) rfl
        · exact fun _ h => O_mv rfl rfl h
        (try simp only [PT])
        apply seq_op (V := .int .i64 (k2 : Int)) rfl
        · exact fun _ h => O_as rfl rfl h
        (try simp only [PT])
        refine list_end ?_
        refine then_norm ?_
        refine wp_ret ?_
        refine block_ret ?_
        refine then_ret ?_
        refine then_ret ?_
        refine block_ret ?_
        refine then_ret ?_
        subst hq2
        (try dsimp only at hm)
        subst hm
        exact ret1 rfl (rv_tmp rfl) rfl ⟨rfl, H⟩
      · have hc2 := hc
        clear hc
        replace hq2 := ifF hc2 hq2
        refine wp_skip ?_
        refine block_norm ?_
        refine then_norm ?_
        refine wp_region_lit ?_
        apply seq_op (V := .int .i64 (IntKind.i64.wrap ((k2 : Int) + 1))) rfl
        · exact fun _ h => O_bin rfl rfl rfl eqg_int r_add h
        (try simp only [PT])
        apply seq_op (V := .int .i64 (IntKind.i64.wrap ((k2 : Int) + 1))) rfl
        · exact fun _ h => O_mv rfl rfl h
        (try simp only [PT])
        refine list_end ?_
        refine then_norm ?_
        refine ⟨⟨⟨rfl, rfl, rfl, rfl, rfl, rfl, rfl⟩, rfl⟩, ⟨k2 + 1, _, hd2'', wrap_succ hl2 hn2, hq2, H⟩, ?_⟩
        exact meas_succ hl2 hn2
    · have hc1 := hc
      clear hc
      obtain rfl := rng_f hd2 hc1
      rw [slices_IndexFunc_Op_pair_table_event_1_l2] at hq2
      refine wp_exit ?_
      refine then_exit ?_
      refine then_exit ?_
      subst hq2
      (try dsimp only at hm)
      refine block_exit ?_
      refine then_norm ?_
      refine wp_seq ?_
      refine wp_region_lit ?_
      apply seq_op (V := .int .i64 (-1)) rfl
      · exact fun _ h => O_as rfl rfl h
      (try simp only [PT])
      refine list_end ?_
      refine then_norm ?_
      refine wp_ret ?_
      subst hm
      exact ret1 rfl (rv_tmp rfl) rfl ⟨rfl, H⟩
def slices_ContainsFunc_Op_pair_table_event_1_f (a0 : List Op') : Bool := (decide ((slices_IndexFunc_Op_pair_table_event_1_f a0) ≥ 0))

set_option maxHeartbeats 4000000 in
theorem slices_ContainsFunc_Op_pair_table_event_1_w {E : World} {s : SH} {L : List HP} {w : World} {a0 : List Op'} {A_p0 : Option Addr} {c_p0 : Nat} (h_p0 : kOp.Sl s (.slice A_p0 a0.length c_p0) a0) (H : Holds E s (L) w) :
    Calls Tryd.prog 153 #[.slice A_p0 a0.length c_p0, .func (.func 154) #[] #[]] w fun e w' => e = .returned (.bool (slices_ContainsFunc_Op_pair_table_event_1_f a0)) ∧ Holds E s (L) w' := by
  obtain ⟨R, hm⟩ : ∃ R, slices_ContainsFunc_Op_pair_table_event_1_f a0 = R := ⟨_, rfl⟩
  (try rw [hm])
  unfold slices_ContainsFunc_Op_pair_table_event_1_f at hm
  go_enter Tryd.func153, Tryd.ntmps153
  refine wp_seq ?_
  refine wp_region_lit ?_
  apply seq_op (V := .bool false) rfl
  · exact fun _ h => O_as rfl rfl h
  (try simp only [PT])
  refine list_end ?_
  refine then_norm ?_
  refine wp_seq ?_
  refine wp_region_lit ?_
  apply seq_op (V := .slice A_p0 a0.length c_p0) rfl
  · exact fun _ h => O_mv rfl rfl h
  (try simp only [PT])
  apply seq_op (V := .func (.func 154) #[] #[]) rfl
  · exact fun _ h => O_mv rfl rfl h
  (try simp only [PT])
  refine seq_call rfl (fun Φ hΦ => by refine O_call2 rfl Tryd.func174 rfl rfl rfl rfl hΦ) (slices_IndexFunc_Op_pair_table_event_1_w (a0 := a0) (h_p0 := h_p0) (H := H)) ?_
  clear H
  rintro e w1 ⟨rfl, H⟩; refine ⟨_, rfl, ?_⟩
  (try simp only [PT])
  apply seq_op (V := .bool (decide ((slices_IndexFunc_Op_pair_table_event_1_f a0) ≥ 0))) rfl
  · exact fun _ h => O_bin rfl rfl rfl eqg_int r_geq h
  (try simp only [PT])
  apply seq_op (V := .bool (decide ((slices_IndexFunc_Op_pair_table_event_1_f a0) ≥ 0))) rfl
  · exact fun _ h => O_as rfl rfl h
  (try simp only [PT])
  refine list_end ?_
  refine then_norm ?_
  refine wp_ret ?_
  subst hm
  exact ret1 rfl (rv_tmp rfl) rfl ⟨rfl, H⟩
def pair_table_event_2_f (a0 : Op') : Bool := ((pair_reads_f a0) && (!a0.has))

set_option maxHeartbeats 4000000 in
theorem pair_table_event_2_w {E : World} {s : SH} {L : List HP} {w : World} {a0 : Op'} {A_p0_list : Option Addr} {c_p0_list : Nat} (h_p0_list : kI.Sl s (.slice A_p0_list a0.list.length c_p0_list) a0.list) (H : Holds E s (L) w) :
    Calls Tryd.prog 156 #[.agg #[.int .i64 a0.kind, .string a0.key, .int .i64 a0.value, .slice A_p0_list a0.list.length c_p0_list, .bool a0.has, .bool a0.isNil]] w fun e w' => e = .returned (.bool (pair_table_event_2_f a0)) ∧ Holds E s (L) w' := by
  obtain ⟨R, hm⟩ : ∃ R, pair_table_event_2_f a0 = R := ⟨_, rfl⟩
  (try rw [hm])
  unfold pair_table_event_2_f at hm
  go_enter Tryd.func156, Tryd.ntmps156
  refine wp_seq ?_
  refine wp_region_lit ?_
  refine OpG.list rfl ?_; refine B_x 108 _ rfl (v := .agg #[.int .i64 a0.kind, .string a0.key, .int .i64 a0.value, .slice A_p0_list a0.list.length c_p0_list, .bool a0.has, .bool a0.isNil]) rfl H ?_; clear H; intro b1 w1 H; (try simp only [Value.cells] at H)
  (try simp only [PT])
  apply seq_op (V := .bool false) rfl
  · exact fun _ h => O_as rfl rfl h
  (try simp only [PT])
  refine list_end ?_
  refine then_norm ?_
  refine wp_seq ?_
  refine wp_region_lit ?_
  apply seq_op (V := .agg #[.int .i64 a0.kind, .string a0.key, .int .i64 a0.value, .slice A_p0_list a0.list.length c_p0_list, .bool a0.has, .bool a0.isNil]) rfl
  · exact fun _ h => G_pNi 0 _ _ rfl (Tryd.isAgg108 _) rfl H rfl (Tryd.sizeOf108 _) h
  (try simp only [PT])
  refine seq_call rfl (fun Φ hΦ => by refine O_call1 rfl Tryd.func155 rfl rfl rfl hΦ) (pair_reads_w (a0 := a0) (h_p0_list := h_p0_list) (H := H)) ?_
  clear H
  rintro e w1 ⟨rfl, H⟩; refine ⟨_, rfl, ?_⟩
  (try simp only [PT])
  apply seq_op (V := .bool (pair_reads_f a0)) rfl
  · exact fun _ h => O_mv rfl rfl h
  (try simp only [PT])
  refine seq_opg (c := (pair_reads_f a0)) (V := .pointer (some ⟨b1, 4, none⟩)) (by first | exact wanted_t rfl rfl rfl | exact wanted_vt rfl rfl rfl) ?_ ?_
  · intro hc Φ hΦ; refine O_fld rfl Tryd.underlying108 rfl (Tryd.sizeOf4 _) rfl ?_; exact hΦ
  (try simp only [PT])
  refine seq_opg (c := (pair_reads_f a0)) (V := .bool a0.has) (by first | exact wanted_t rfl rfl rfl | exact wanted_vt rfl rfl rfl) ?_ ?_
  · intro hc Φ hΦ; (repeat (first | rw [vg_of hc] | rw [vg_of (and_l hc)] | rw [vg_of (and_l (and_l hc))] | rw [vg_of (and_l (and_l (and_l hc)))] | rw [vg_and hc])); refine L_1 0 _ _ rfl (Tryd.isAgg4 _) rfl H rfl rfl ?_; exact hΦ
  (try simp only [PT])
  refine seq_opg (c := (pair_reads_f a0)) (V := .bool (!a0.has)) (by first | exact wanted_t rfl rfl rfl | exact wanted_vt rfl rfl rfl) ?_ ?_
  · intro hc Φ hΦ; (repeat (first | rw [vg_of hc] | rw [vg_of (and_l hc)] | rw [vg_of (and_l (and_l hc))] | rw [vg_of (and_l (and_l (and_l hc)))] | rw [vg_and hc])); refine O_not rfl rfl ?_; exact hΦ
  (try simp only [PT])
  apply seq_op (V := .bool ((pair_reads_f a0) && (!a0.has))) rfl
  · exact fun _ h => G_and _ _ _ rfl rfl rfl rfl h
  (try simp only [PT])
  apply seq_op (V := .bool ((pair_reads_f a0) && (!a0.has))) rfl
  · exact fun _ h => O_as rfl rfl h
  (try simp only [PT])
  refine list_end ?_
  refine then_norm ?_
  refine wp_ret ?_
  subst hm
  replace H := H.dropAt 0 rfl; simp only [List.eraseIdx_cons_succ, List.eraseIdx_cons_zero] at H
  exact ret1 rfl (rv_tmp rfl) rfl ⟨rfl, H⟩
def slices_IndexFunc_Op_pair_table_event_2_l2  : Nat → List Op' → (Int ⊕ Unit)
  | k2, []  => .inr ()
  | k2, x2 :: r2 => if (pair_table_event_2_f x2) = true then (.inl (k2 : Int)) else (slices_IndexFunc_Op_pair_table_event_2_l2 (k2 + 1) r2)

def slices_IndexFunc_Op_pair_table_event_2_f (a0 : List Op') : Int := letF (slices_IndexFunc_Op_pair_table_event_2_l2 0 a0) fun | .inl z2_r => z2_r | .inr () => (-1)

set_option maxHeartbeats 4000000 in
theorem slices_IndexFunc_Op_pair_table_event_2_w {E : World} {s : SH} {L : List HP} {w : World} {a0 : List Op'} {A_p0 : Option Addr} {c_p0 : Nat} (h_p0 : kOp.Sl s (.slice A_p0 a0.length c_p0) a0) (H : Holds E s (L) w) :
    Calls Tryd.prog 174 #[.slice A_p0 a0.length c_p0, .func (.func 156) #[] #[]] w fun e w' => e = .returned (.int .i64 (slices_IndexFunc_Op_pair_table_event_2_f a0)) ∧ Holds E s (L) w' := by
  obtain ⟨R, hm⟩ : ∃ R, slices_IndexFunc_Op_pair_table_event_2_f a0 = R := ⟨_, rfl⟩
  (try rw [hm])
  unfold slices_IndexFunc_Op_pair_table_event_2_f at hm
  go_enter Tryd.func174, Tryd.ntmps174
  refine wp_seq ?_
  refine wp_region_lit ?_
  apply seq_op (V := .int .i64 0) rfl
  · exact fun _ h => O_as rfl rfl h
  (try simp only [PT])
  refine list_end ?_
  refine then_norm ?_
  refine wp_seq ?_
  refine wp_seq ?_
  refine wp_region_lit ?_
  apply seq_op (V := .slice A_p0 a0.length c_p0) rfl
  · exact fun _ h => O_mv rfl rfl h
  (try simp only [PT])
  apply seq_op (V := .int .i64 (a0.length : Int)) rfl
  · exact fun _ h => O_len rfl Tryd.underlying71 rfl h
  (try simp only [PT])
  apply seq_op (V := .int .i64 0) rfl
  · exact fun _ h => O_mv rfl rfl h
  (try simp only [PT])
  refine list_end ?_
  refine then_norm ?_
  refine wp_block ?_
  obtain ⟨R2, hq2, hm⟩ := lfe hm
  have hn2 := Nat.le_trans (len_le (d := kOp) h_p0 (by decide)) (by decide : (140737488355328 : Nat) ≤ 9223372036854775807)
  refine wp_loopF [none, none, none, none, some 4, some 5, none, none, some 8, some 9, some 10, some 11, some 12, some 13, some 14, some 15, some 16, some 17, some 18] rfl (by simp) (fun f w => ∃ (k2 : Nat) (r2 : List Op'), a0.drop k2 = r2 ∧ f 8 = .int .i64 (k2 : Int) ∧ slices_IndexFunc_Op_pair_table_event_2_l2 k2 r2 = R2 ∧ Holds E s (L) w) (fun f w => a0.length - (intOf (f 8)).toNat) ?_ ?_
  · exact ⟨0, a0, rfl, rfl, hq2, H⟩
  · clear H
    intro f w hI
    obtain ⟨k2, r2, hd2, hf8, hq2', H⟩ := hI
    clear hq2; have hq2 := hq2'; clear hq2'
    simp only [ovm, mixM]
    simp only [hf8]; clear hf8
    refine wp_seq ?_
    refine wp_region_lit ?_
    apply seq_op (V := .bool (decide ((k2 : Int) < (a0.length : Int)))) rfl
    · exact fun _ h => O_bin rfl rfl rfl eqg_int r_lss h
    (try simp only [PT])
    refine list_end ?_
    refine then_norm ?_
    refine wp_seq ?_
    refine wp_cond_split rfl (fun hc => ?_) (fun hc => ?_)
    · have hc1 := hc
      clear hc
      obtain ⟨x2, r2', rfl, hd2', hd2'', hl2⟩ := rng_t hd2 hc1
      rw [slices_IndexFunc_Op_pair_table_event_2_l2] at hq2
      refine wp_skip ?_
      refine then_norm ?_
      refine wp_seq ?_
      refine wp_block ?_
      refine wp_seq ?_
      refine wp_region_lit ?_
      apply seq_op (V := .int .i64 (k2 : Int)) rfl
      · exact fun _ h => O_mv rfl rfl h
      (try simp only [PT])
      apply seq_op (V := .int .i64 (k2 : Int)) rfl
      · exact fun _ h => O_as rfl rfl h
      (try simp only [PT])
      refine list_end ?_
      refine then_norm ?_
      refine wp_seq ?_
      obtain ⟨be1, oe1, A3e1, c3e1, rfl, hCe1, h0e1, h1e1, h2e1, h3e1⟩ := kOp_el h_p0 hd2'
      refine wp_region_lit ?_
      apply seq_op (V := .func (.func 156) #[] #[]) rfl
      · exact fun _ h => O_mv rfl rfl h
      (try simp only [PT])
      apply seq_op (V := .slice (some ⟨be1, oe1, none⟩) a0.length c_p0) rfl
      · exact fun _ h => O_mv rfl rfl h
      (try simp only [PT])
      apply seq_op (V := .int .i64 (k2 : Int)) rfl
      · exact fun _ h => O_mv rfl rfl h
      (try simp only [PT])
      apply seq_op (V := .pointer (some ⟨be1, oe1 + k2 * 6, none⟩)) rfl
      · exact fun _ h => O_ix rfl Tryd.underlying71 (Tryd.sizeOf108 _) rfl rfl rfl hl2 h
      (try simp only [PT])
      apply seq_op (V := .agg #[.int .i64 x2.kind, .string x2.key, .int .i64 x2.value, .slice A3e1 x2.list.length c3e1, .bool x2.has, .bool x2.isNil]) rfl
      · exact fun _ h => G_sN _ _ rfl (Tryd.isAgg108 _) rfl H hCe1 (Tryd.sizeOf108 _) h
      (try simp only [PT])
      refine seq_call rfl (fun Φ hΦ => by refine O_callv1 (args := #[.agg #[.int .i64 x2.kind, .string x2.key, .int .i64 x2.value, .slice A3e1 x2.list.length c3e1, .bool x2.has, .bool x2.isNil]]) (v1 := .agg #[.int .i64 x2.kind, .string x2.key, .int .i64 x2.value, .slice A3e1 x2.list.length c3e1, .bool x2.has, .bool x2.isNil]) rfl Tryd.func156 rfl rfl rfl rfl (by simp only [Array.append_empty]) hΦ) (pair_table_event_2_w (a0 := x2) (h_p0_list := h3e1) (H := H)) ?_
      clear H
      rintro e w1 ⟨rfl, H⟩; refine ⟨_, rfl, ?_⟩
      (try simp only [PT])
      refine list_end ?_
      refine then_norm ?_
      refine wp_cond_split rfl (fun hc => ?_) (fun hc => ?_)
      · have hc2 := hc
        clear hc
        replace hq2 := ifT hc2 hq2
        refine wp_seq ?_
        refine wp_region_lit ?_
        apply seq_op (V := .int .i64 (k2 : Int)) rfl
        · exact fun _ h => O_mv rfl rfl h
        (try simp only [PT])
        apply seq_op (V := .int .i64 (k2 : Int)) rfl
        · exact fun _ h => O_as rfl rfl h
        (try simp only [PT])
        refine list_end ?_
        refine then_norm ?_
        refine wp_ret ?_
        refine block_ret ?_
        refine then_ret ?_
        refine then_ret ?_
        refine block_ret ?_
        refine then_ret ?_
        subst hq2
        (try dsimp only at hm)
        subst hm
        exact ret1 rfl (rv_tmp rfl) rfl ⟨rfl, H⟩
      · have hc2 := hc
        clear hc
        replace hq2 := ifF hc2 hq2
        refine wp_skip ?_
        refine block_norm ?_
        refine then_norm ?_
        refine wp_region_lit ?_
        apply seq_op (V := .int .i64 (IntKind.i64.wrap ((k2 : Int) + 1))) rfl
        · exact fun _ h => O_bin rfl rfl rfl eqg_int r_add h
        (try simp only [PT])
        apply seq_op (V := .int .i64 (IntKind.i64.wrap ((k2 : Int) + 1))) rfl
        · exact fun _ h => O_mv rfl rfl h
        (try simp only [PT])
        refine list_end ?_
        refine then_norm ?_
        refine ⟨⟨⟨rfl, rfl, rfl, rfl, rfl, rfl, rfl⟩, rfl⟩, ⟨k2 + 1, _, hd2'', wrap_succ hl2 hn2, hq2, H⟩, ?_⟩
        exact meas_succ hl2 hn2
    · have hc1 := hc
      clear hc
      obtain rfl := rng_f hd2 hc1
      rw [slices_IndexFunc_Op_pair_table_event_2_l2] at hq2
      refine wp_exit ?_
      refine then_exit ?_
      refine then_exit ?_
      subst hq2
      (try dsimp only at hm)
      refine block_exit ?_
      refine then_norm ?_
      refine wp_seq ?_
      refine wp_region_lit ?_
      apply seq_op (V := .int .i64 (-1)) rfl
      · exact fun _ h => O_as rfl rfl h
      (try simp only [PT])
      refine list_end ?_
      refine then_norm ?_
      refine wp_ret ?_
      subst hm
      exact ret1 rfl (rv_tmp rfl) rfl ⟨rfl, H⟩
def slices_ContainsFunc_Op_pair_table_event_2_f (a0 : List Op') : Bool := (decide ((slices_IndexFunc_Op_pair_table_event_2_f a0) ≥ 0))

set_option maxHeartbeats 4000000 in
theorem slices_ContainsFunc_Op_pair_table_event_2_w {E : World} {s : SH} {L : List HP} {w : World} {a0 : List Op'} {A_p0 : Option Addr} {c_p0 : Nat} (h_p0 : kOp.Sl s (.slice A_p0 a0.length c_p0) a0) (H : Holds E s (L) w) :
    Calls Tryd.prog 153 #[.slice A_p0 a0.length c_p0, .func (.func 156) #[] #[]] w fun e w' => e = .returned (.bool (slices_ContainsFunc_Op_pair_table_event_2_f a0)) ∧ Holds E s (L) w' := by
  obtain ⟨R, hm⟩ : ∃ R, slices_ContainsFunc_Op_pair_table_event_2_f a0 = R := ⟨_, rfl⟩
  (try rw [hm])
  unfold slices_ContainsFunc_Op_pair_table_event_2_f at hm
  go_enter Tryd.func153, Tryd.ntmps153
  refine wp_seq ?_
  refine wp_region_lit ?_
  apply seq_op (V := .bool false) rfl
  · exact fun _ h => O_as rfl rfl h
  (try simp only [PT])
  refine list_end ?_
  refine then_norm ?_
  refine wp_seq ?_
  refine wp_region_lit ?_
  apply seq_op (V := .slice A_p0 a0.length c_p0) rfl
  · exact fun _ h => O_mv rfl rfl h
  (try simp only [PT])
  apply seq_op (V := .func (.func 156) #[] #[]) rfl
  · exact fun _ h => O_mv rfl rfl h
  (try simp only [PT])
  refine seq_call rfl (fun Φ hΦ => by refine O_call2 rfl Tryd.func174 rfl rfl rfl rfl hΦ) (slices_IndexFunc_Op_pair_table_event_2_w (a0 := a0) (h_p0 := h_p0) (H := H)) ?_
  clear H
  rintro e w1 ⟨rfl, H⟩; refine ⟨_, rfl, ?_⟩
  (try simp only [PT])
  apply seq_op (V := .bool (decide ((slices_IndexFunc_Op_pair_table_event_2_f a0) ≥ 0))) rfl
  · exact fun _ h => O_bin rfl rfl rfl eqg_int r_geq h
  (try simp only [PT])
  apply seq_op (V := .bool (decide ((slices_IndexFunc_Op_pair_table_event_2_f a0) ≥ 0))) rfl
  · exact fun _ h => O_as rfl rfl h
  (try simp only [PT])
  refine list_end ?_
  refine then_norm ?_
  refine wp_ret ?_
  subst hm
  exact ret1 rfl (rv_tmp rfl) rfl ⟨rfl, H⟩
theorem eqnil_kOp (w : World) (a : Option Addr) (n c : Nat) : (binOp .eql 71 (.slice a n c) (.slice none 0 0)).run Tryd.prog w = .ok (.bool a.isNone) w := Lib.run_eql_slice_nil w _ _ a n c 0 0 Tryd.underlying71
attribute [local go_sem] eqnil_kOp
set_option maxHeartbeats 400000 in
theorem clone_kOp_w {E : World} {s : SH} {L : List HP} {w : World} {a0 : List Op'} {A_p0 : Option Addr} {c_p0 : Nat} (h_p0 : kOp.Sl s (.slice A_p0 a0.length c_p0) a0) (H : Holds E s L w) :
    Calls Tryd.prog 122 #[.slice A_p0 a0.length c_p0] w fun e w' => ∃ A c n, e = .returned (.slice A n c) ∧ Holds E s ((kOp.sh s).Osl (.slice A n c) a0 :: L) w' := by
  have hv0 := h_p0
  obtain ⟨A, cap, e, h1, h2, h3⟩ := h_p0
  cases e
  cases A_p0 with
  | none =>
    have : a0 = [] := Classical.byContradiction fun hx => by obtain ⟨b, off, cur, e, fr, k, _⟩ := h3 hx; cases k
    subst this
    go_enter Tryd.func122, Tryd.ntmps122
    go_wp2
    go_ret
    exact ⟨none, 0, 0, rfl, Kin.Osl.nil H⟩
  | some p =>
    go_enter Tryd.func122, Tryd.ntmps122
    go_wp2_with (first | ((with_reducible refine OpG.list rfl ?_); refine G_slice0 (d := kOp.sh s) rfl Tryd.underlying71 Tryd.sizeOf108 H ?_; intro v1 w1 H1) | ((with_reducible refine OpG.list rfl ?_); refine G_appendS kOp_at _ _ rfl H1 hv0 rfl rfl (by simpa using h2) ?_; intro v2 w2 H2; simp only [List.nil_append] at H2))
    obtain ⟨A2, c2, rfl, -⟩ := H2.len
    go_ret
    exact ⟨A2, c2, _, rfl, H2⟩
theorem eqnil_kI (w : World) (a : Option Addr) (n c : Nat) : (binOp .eql 27 (.slice a n c) (.slice none 0 0)).run Tryd.prog w = .ok (.bool a.isNone) w := Lib.run_eql_slice_nil w _ _ a n c 0 0 Tryd.underlying27
attribute [local go_sem] eqnil_kI
set_option maxHeartbeats 400000 in
theorem clone_kI_w {E : World} {s : SH} {L : List HP} {w : World} {a0 : List Int} {A_p0 : Option Addr} {c_p0 : Nat} (h_p0 : kI.Sl s (.slice A_p0 a0.length c_p0) a0) (H : Holds E s L w) :
    Calls Tryd.prog 55 #[.slice A_p0 a0.length c_p0] w fun e w' => ∃ A c n, e = .returned (.slice A n c) ∧ Holds E s ((kI.sh s).Osl (.slice A n c) a0 :: L) w' := by
  have hv0 := h_p0
  obtain ⟨A, cap, e, h1, h2, h3⟩ := h_p0
  cases e
  cases A_p0 with
  | none =>
    have : a0 = [] := Classical.byContradiction fun hx => by obtain ⟨b, off, cur, e, fr, k, _⟩ := h3 hx; cases k
    subst this
    go_enter Tryd.func55, Tryd.ntmps55
    go_wp2
    go_ret
    exact ⟨none, 0, 0, rfl, Kin.Osl.nil H⟩
  | some p =>
    go_enter Tryd.func55, Tryd.ntmps55
    go_wp2_with (first | ((with_reducible refine OpG.list rfl ?_); refine G_slice0 (d := kI.sh s) rfl Tryd.underlying27 Tryd.sizeOf3 H ?_; intro v1 w1 H1) | ((with_reducible refine OpG.list rfl ?_); refine G_appendS kI_at _ _ rfl H1 hv0 rfl rfl (by simpa using h2) ?_; intro v2 w2 H2; simp only [List.nil_append] at H2))
    obtain ⟨A2, c2, rfl, -⟩ := H2.len
    go_ret
    exact ⟨A2, c2, _, rfl, H2⟩
def histtext_CopyOps_l3  : Nat → Nat → (List Op') → Option (((List Op')))
  | k3, 0, y3_p0 => some y3_p0
  | k3, r3 + 1, y3_p0 => (rdI y3_p0 (k3 : Int)).bind fun u1 => histtext_CopyOps_l3 (k3 + 1) r3 (setI y3_p0 (k3 : Int) (⟨u1.kind, u1.key, u1.value, u1.list, u1.has, u1.isNil⟩ : Op'))

def histtext_CopyOps_f (a0 : List Op') : Option ((List Op')) := (histtext_CopyOps_l3 0 ((a0.length : Int)).toNat a0).bind fun z3_p0 => some z3_p0

set_option maxHeartbeats 4000000 in
theorem histtext_CopyOps_w {E : World} {s : SH} {L : List HP} {w : World} {a0 : List Op'} {A_p0 : Option Addr} {c_p0 : Nat} (h_p0 : kOp.Sl s (.slice A_p0 a0.length c_p0) a0) {R : (List Op')} (hm : histtext_CopyOps_f a0 = some R) (H : Holds E s (L) w) :
    Calls Tryd.prog 71 #[.slice A_p0 a0.length c_p0] w fun e w' => ∃ A0 c0 n0 s', e = .returned (.slice A0 n0 c0) ∧ Sub s s' ∧ Holds E s' ((kOp.sh s').Osl (.slice A0 n0 c0) R :: L) w' := by
  unfold histtext_CopyOps_f at hm
  go_enter Tryd.func71, Tryd.ntmps71
  refine wp_seq ?_
  refine wp_region_lit ?_
  apply seq_op (V := .slice none 0 0) rfl
  · exact fun _ h => O_as rfl rfl h
  (try simp only [PT])
  refine list_end ?_
  refine then_norm ?_
  refine wp_seq ?_
  refine wp_region_lit ?_
  apply seq_op (V := .slice A_p0 a0.length c_p0) rfl
  · exact fun _ h => O_mv rfl rfl h
  (try simp only [PT])
  refine seq_call rfl (fun Φ hΦ => by refine O_call1 rfl Tryd.func122 rfl rfl rfl hΦ) (clone_kOp_w (a0 := a0) (h_p0 := h_p0) (H := H)) ?_
  clear H
  rintro e w1 ⟨Ar10, cr10, nr10, rfl, H⟩; refine ⟨_, rfl, ?_⟩
  obtain rfl := osl_len 0 H rfl
  (try simp only [PT])
  apply seq_op (V := .slice Ar10 a0.length cr10) rfl
  · exact fun _ h => O_as rfl rfl h
  (try simp only [PT])
  refine list_end ?_
  refine then_norm ?_
  refine wp_seq ?_
  refine wp_seq ?_
  have gn1 : Kin.inI64 ((a0.length : Nat) : Int) := osl_i 0 H rfl (by decide : 0 < kOp.by_)
  refine wp_region_lit ?_
  apply seq_op (V := .slice Ar10 a0.length cr10) rfl
  · exact fun _ h => O_mv rfl rfl h
  (try simp only [PT])
  apply seq_op (V := .int .i64 (a0.length : Int)) rfl
  · exact fun _ h => O_len rfl Tryd.underlying71 rfl h
  (try simp only [PT])
  apply seq_op (V := .int .i64 0) rfl
  · exact fun _ h => O_mv rfl rfl h
  (try simp only [PT])
  refine list_end ?_
  refine then_norm ?_
  refine wp_block ?_
  obtain ⟨R3, hq3, hm⟩ := bs hm
  have hn3 := int_le gn1
  refine wp_loopF [none, none, none, none, some 4, none, none, none, none, some 9, some 10, some 11, some 12, some 13, some 14, some 15, some 16, some 17, some 18, some 19, some 20, some 21, some 22, none] rfl (by simp) (fun f w => ∃ (k3 : Nat) (r3 : Nat) (sL3 : SH) (y3_p0 : List Op'), Sub s sL3 ∧ k3 + r3 = ((a0.length : Int)).toNat ∧ f 9 = .int .i64 (k3 : Int) ∧ histtext_CopyOps_l3 k3 r3 y3_p0 = some R3 ∧ Holds E sL3 ((kOp.sh sL3).Osl (.slice Ar10 a0.length cr10) y3_p0 :: L) w) (fun f w => ((a0.length : Int)).toNat - (intOf (f 9)).toNat) ?_ ?_
  · exact ⟨0, _, s, a0, Sub.refl _, Nat.zero_add _, rfl, hq3, H⟩
  · clear H
    intro f w hI
    obtain ⟨k3, r3, sL3, y3_p0, hs3, hd3, hf9, hq3', H⟩ := hI
    clear hq3; have hq3 := hq3'; clear hq3'
    simp only [ovm, mixM]
    simp only [hf9]; clear hf9
    replace h_p0 := h_p0.mono hs3
    have hS := hs3
    refine wp_seq ?_
    refine wp_region_lit ?_
    apply seq_op (V := .bool (decide ((k3 : Int) < (a0.length : Int)))) rfl
    · exact fun _ h => O_bin rfl rfl rfl eqg_int r_lss h
    (try simp only [PT])
    refine list_end ?_
    refine then_norm ?_
    refine wp_seq ?_
    refine wp_cond_split rfl (fun hc => ?_) (fun hc => ?_)
    · have hc1 := hc
      clear hc
      obtain ⟨r3', rfl, hl3, hd3''⟩ := irng_t hd3 hc1
      rw [histtext_CopyOps_l3] at hq3
      refine wp_skip ?_
      refine then_norm ?_
      refine wp_seq ?_
      refine wp_block ?_
      refine wp_seq ?_
      refine wp_region_lit ?_
      apply seq_op (V := .int .i64 (k3 : Int)) rfl
      · exact fun _ h => O_mv rfl rfl h
      (try simp only [PT])
      apply seq_op (V := .int .i64 (k3 : Int)) rfl
      · exact fun _ h => O_as rfl rfl h
      (try simp only [PT])
      refine list_end ?_
      refine then_norm ?_
      obtain ⟨u1, gx1, hq3⟩ := bs hq3
      obtain ⟨kk1, gk1, gl1, gd1⟩ := rdI_some gx1
      obtain ⟨bokk1, rfl⟩ := own_addr 0 H rfl (fun e => by rw [e] at gl1; exact absurd gl1 (Nat.not_lt_zero _))
      have gngl1 := Nat.lt_of_lt_of_eq gl1 (osl_len 0 H rfl).symm
      obtain ⟨cse1, hKe1⟩ := own_has 0 H rfl gd1; obtain ⟨_, _, -, h0e1, h1e1, h2e1, -⟩ := kOp_op hKe1
      refine wp_region_lit ?_
      apply seq_op (V := .slice (some ⟨bokk1, 0, none⟩) a0.length cr10) rfl
      · exact fun _ h => O_mv rfl rfl h
      (try simp only [PT])
      apply seq_op (V := .int .i64 (k3 : Int)) rfl
      · exact fun _ h => O_mv rfl rfl h
      (try simp only [PT])
      apply seq_op (V := .slice (some ⟨bokk1, 0, none⟩) a0.length cr10) rfl
      · exact fun _ h => O_mv rfl rfl h
      (try simp only [PT])
      apply seq_op (V := .int .i64 (k3 : Int)) rfl
      · exact fun _ h => O_mv rfl rfl h
      (try simp only [PT])
      apply seq_op (V := .pointer (some ⟨bokk1, kk1 * 6, none⟩)) rfl
      · exact fun _ h => O_ixn rfl Tryd.underlying71 (Tryd.sizeOf108 _) rfl rfl gk1 gngl1 h
      (try simp only [PT])
      apply seq_op (V := .pointer (some ⟨bokk1, kk1 * 6 + 3, none⟩)) rfl
      · exact fun _ h => O_fld rfl Tryd.underlying108 rfl (Tryd.sizeOf27 _) rfl h
      (try simp only [PT])
      refine OpG.list rfl ?_; refine G_owngetF (d := kOp) (f := 3) 0 _ _ rfl (Tryd.isAgg27 _) rfl rfl (by decide) H rfl gd1 ?_; intro cs v hK hv; obtain ⟨A3o1, c3o1, rfl, -, -, -, h3o1⟩ := kOp_op hK; obtain rfl := Option.some.inj hv
      (try simp only [PT])
      refine seq_call rfl (fun Φ hΦ => by refine O_call1 rfl Tryd.func55 rfl rfl rfl hΦ) (clone_kI_w (a0 := u1.list) (h_p0 := h3o1) (H := H)) ?_
      clear H
      rintro e w1 ⟨Ar20, cr20, nr20, rfl, H⟩; refine ⟨_, rfl, ?_⟩
      obtain rfl := osl_len 0 H rfl
      skip
      obtain ⟨s1, hs', H, hf1⟩ := Kin.Osl.fr H; replace hf1 := hf1.unsh hs'
      replace h_p0 := h_p0.mono hs'
      replace h3o1 := h3o1.mono hs'
      replace H := Holds.mapAt (A := (kOp.sh sL3).Osl (.slice (some ⟨bokk1, 0, none⟩) a0.length cr10) y3_p0) (B := (kOp.sh s1).Osl (.slice (some ⟨bokk1, 0, none⟩) a0.length cr10) y3_p0) 0 rfl (fun h k => Kin.Osl.sh_mono (d := kOp) hs' h k) H; simp only [List.set_cons_succ, List.set_cons_zero] at H
      replace hS := hS.trans hs'
      replace hs3 := hs3.trans hs'
      (try simp only [PT])
      apply seq_op (V := .pointer (some ⟨bokk1, kk1 * 6, none⟩)) rfl
      · exact fun _ h => O_ixn rfl Tryd.underlying71 (Tryd.sizeOf108 _) rfl rfl gk1 gngl1 h
      (try simp only [PT])
      apply seq_op (V := .pointer (some ⟨bokk1, kk1 * 6 + 3, none⟩)) rfl
      · exact fun _ h => O_fld rfl Tryd.underlying108 rfl (Tryd.sizeOf27 _) rfl h
      (try simp only [PT])
      refine OpG.list rfl ?_; refine G_ownsetF (d := kOp) 0 _ _ _ rfl (Tryd.sizeOf27 _) (f := 3) (v := .slice Ar20 u1.list.length cr20) (x' := (⟨u1.kind, u1.key, u1.value, u1.list, u1.has, u1.isNil⟩ : Op')) rfl rfl (by decide) rfl H rfl gk1 gd1 rfl (fun cs h => by obtain ⟨_, _, rfl, h0', h1', h2', -⟩ := kOp_op h; exact kOp_mk' (s := s1) (x := (⟨u1.kind, u1.key, u1.value, u1.list, u1.has, u1.isNil⟩ : Op')) h0' h1' h2' hf1) ?_; clear H; intro w1 H; simp only [List.set_cons_succ, List.set_cons_zero] at H
      (try simp only [PT])
      obtain ⟨gd2, gl2⟩ := setI_drop (x := (⟨u1.kind, u1.key, u1.value, u1.list, u1.has, u1.isNil⟩ : Op')) gk1 gl1
      refine list_end ?_
      refine block_norm ?_
      refine then_norm ?_
      refine wp_region_lit ?_
      apply seq_op (V := .int .i64 (IntKind.i64.wrap ((k3 : Int) + 1))) rfl
      · exact fun _ h => O_bin rfl rfl rfl eqg_int r_add h
      (try simp only [PT])
      apply seq_op (V := .int .i64 (IntKind.i64.wrap ((k3 : Int) + 1))) rfl
      · exact fun _ h => O_mv rfl rfl h
      (try simp only [PT])
      refine list_end ?_
      refine then_norm ?_
      refine ⟨⟨⟨rfl, rfl, rfl, rfl, rfl, rfl, rfl, rfl, rfl, rfl⟩, rfl⟩, ⟨k3 + 1, r3', s1, (setI y3_p0 (k3 : Int) (⟨u1.kind, u1.key, u1.value, u1.list, u1.has, u1.isNil⟩ : Op')), hs3, hd3'', wrap_succ hl3 hn3, hq3, H⟩, ?_⟩
      exact meas_succ hl3 hn3
    · have hc1 := hc
      clear hc
      obtain rfl := irng_f hd3 hc1
      rw [histtext_CopyOps_l3] at hq3
      refine wp_exit ?_
      refine then_exit ?_
      refine then_exit ?_
      have hq3 := Option.some.inj hq3
      subst hq3
      (try dsimp only at hm)
      refine block_exit ?_
      refine then_norm ?_
      refine wp_seq ?_
      refine wp_region_lit ?_
      apply seq_op (V := .slice Ar10 a0.length cr10) rfl
      · exact fun _ h => O_mv rfl rfl h
      (try simp only [PT])
      apply seq_op (V := .slice Ar10 a0.length cr10) rfl
      · exact fun _ h => O_as rfl rfl h
      (try simp only [PT])
      refine list_end ?_
      refine then_norm ?_
      refine wp_ret ?_
      have hm := Option.some.inj hm
      subst hm
      exact ret1 rfl (rv_tmp rfl) rfl ⟨Ar10, cr10, a0.length, sL3, rfl, hS, H⟩
def pair_bare_l3  : Nat → Nat → (List Op') → Option (((List Op')))
  | k3, 0, y3_p0 => some y3_p0
  | k3, r3 + 1, y3_p0 => (rdI y3_p0 (k3 : Int)).bind fun u2 => if (pair_reads_f u2) = true then (pair_bare_l3 (k3 + 1) r3 (setI y3_p0 (k3 : Int) (⟨u2.kind, u2.key, 0, [], false, false⟩ : Op'))) else (pair_bare_l3 (k3 + 1) r3 y3_p0)

def pair_bare_f (a0 : List Op') : Option ((List Op')) := (histtext_CopyOps_f a0).bind fun u1 => (pair_bare_l3 0 ((u1.length : Int)).toNat u1).bind fun z3_p0 => some z3_p0

set_option maxHeartbeats 4000000 in
theorem pair_bare_w {E : World} {s : SH} {L : List HP} {w : World} {a0 : List Op'} {A_p0 : Option Addr} {c_p0 : Nat} (h_p0 : kOp.Sl s (.slice A_p0 a0.length c_p0) a0) {R : (List Op')} (hm : pair_bare_f a0 = some R) (H : Holds E s (L) w) :
    Calls Tryd.prog 158 #[.slice A_p0 a0.length c_p0] w fun e w' => ∃ A0 c0 n0 s', e = .returned (.slice A0 n0 c0) ∧ Sub s s' ∧ Holds E s' ((kOp.sh s').Osl (.slice A0 n0 c0) R :: L) w' := by
  unfold pair_bare_f at hm
  go_enter Tryd.func158, Tryd.ntmps158
  refine wp_seq ?_
  refine wp_region_lit ?_
  apply seq_op (V := .slice none 0 0) rfl
  · exact fun _ h => O_as rfl rfl h
  (try simp only [PT])
  refine list_end ?_
  refine then_norm ?_
  refine wp_seq ?_
  obtain ⟨u1, gx1, hm⟩ := bs hm
  refine wp_region_lit ?_
  apply seq_op (V := .slice A_p0 a0.length c_p0) rfl
  · exact fun _ h => O_mv rfl rfl h
  (try simp only [PT])
  refine seq_call rfl (fun Φ hΦ => by refine O_call1 rfl Tryd.func71 rfl rfl rfl hΦ) (histtext_CopyOps_w (a0 := a0) (h_p0 := h_p0) (hm := gx1) (H := H)) ?_
  clear H
  rintro e w1 ⟨Ar10, cr10, nr10, s1, rfl, hs', H⟩; refine ⟨_, rfl, ?_⟩
  obtain rfl := osl_len 0 H rfl
  replace h_p0 := h_p0.mono hs'
  have hS := hs'
  (try simp only [PT])
  apply seq_op (V := .slice Ar10 u1.length cr10) rfl
  · exact fun _ h => O_as rfl rfl h
  (try simp only [PT])
  refine list_end ?_
  refine then_norm ?_
  refine wp_seq ?_
  refine wp_seq ?_
  have gn1 : Kin.inI64 ((u1.length : Nat) : Int) := osl_i 0 H rfl (by decide : 0 < kOp.by_)
  refine wp_region_lit ?_
  apply seq_op (V := .slice Ar10 u1.length cr10) rfl
  · exact fun _ h => O_mv rfl rfl h
  (try simp only [PT])
  apply seq_op (V := .int .i64 (u1.length : Int)) rfl
  · exact fun _ h => O_len rfl Tryd.underlying71 rfl h
  (try simp only [PT])
  apply seq_op (V := .int .i64 0) rfl
  · exact fun _ h => O_mv rfl rfl h
  (try simp only [PT])
  refine list_end ?_
  refine then_norm ?_
  refine wp_block ?_
  obtain ⟨R3, hq3, hm⟩ := bs hm
  have hn3 := int_le gn1
  refine wp_loopF [none, none, none, none, some 4, some 5, none, none, none, none, some 10, some 11, some 12, some 13, some 14, some 15, some 16, some 17, some 18, some 19, some 20, some 21, some 22, some 23, some 24, some 25, none] rfl (by simp) (fun f w => ∃ (k3 : Nat) (r3 : Nat) (y3_p0 : List Op'), k3 + r3 = ((u1.length : Int)).toNat ∧ f 10 = .int .i64 (k3 : Int) ∧ pair_bare_l3 k3 r3 y3_p0 = some R3 ∧ Holds E s1 ((kOp.sh s1).Osl (.slice Ar10 u1.length cr10) y3_p0 :: L) w) (fun f w => ((u1.length : Int)).toNat - (intOf (f 10)).toNat) ?_ ?_
  · exact ⟨0, _, u1, Nat.zero_add _, rfl, hq3, H⟩
  · clear H
    intro f w hI
    obtain ⟨k3, r3, y3_p0, hd3, hf10, hq3', H⟩ := hI
    clear hq3; have hq3 := hq3'; clear hq3'
    simp only [ovm, mixM]
    simp only [hf10]; clear hf10
    refine wp_seq ?_
    refine wp_region_lit ?_
    apply seq_op (V := .bool (decide ((k3 : Int) < (u1.length : Int)))) rfl
    · exact fun _ h => O_bin rfl rfl rfl eqg_int r_lss h
    (try simp only [PT])
    refine list_end ?_
    refine then_norm ?_
    refine wp_seq ?_
    refine wp_cond_split rfl (fun hc => ?_) (fun hc => ?_)
    · have hc1 := hc
      clear hc
      obtain ⟨r3', rfl, hl3, hd3''⟩ := irng_t hd3 hc1
      rw [pair_bare_l3] at hq3
      refine wp_skip ?_
      refine then_norm ?_
      refine wp_seq ?_
      refine wp_block ?_
      refine wp_seq ?_
      obtain ⟨u2, gx2, hq3⟩ := bs hq3
      obtain ⟨kk1, gk1, gl1, gd1⟩ := rdI_some gx2
      obtain ⟨bokk1, rfl⟩ := own_addr 0 H rfl (fun e => by rw [e] at gl1; exact absurd gl1 (Nat.not_lt_zero _))
      have gngl1 := Nat.lt_of_lt_of_eq gl1 (osl_len 0 H rfl).symm
      obtain ⟨cse1, hKe1⟩ := own_has 0 H rfl gd1; obtain ⟨_, _, -, h0e1, h1e1, h2e1, -⟩ := kOp_op hKe1
      refine wp_region_lit ?_
      apply seq_op (V := .int .i64 (k3 : Int)) rfl
      · exact fun _ h => O_mv rfl rfl h
      (try simp only [PT])
      apply seq_op (V := .pointer (some ⟨bokk1, kk1 * 6, none⟩)) rfl
      · exact fun _ h => O_ixn rfl Tryd.underlying71 (Tryd.sizeOf108 _) rfl rfl gk1 gngl1 h
      (try simp only [PT])
      refine OpG.list rfl ?_; refine G_owngetN (d := kOp) 0 _ _ rfl (Tryd.isAgg108 _) (Tryd.sizeOf108 _) rfl rfl H rfl gd1 ?_; intro cs hK; obtain ⟨A3o1, c3o1, rfl, -, -, -, h3o1⟩ := kOp_op hK
      (try simp only [PT])
      refine OpG.list rfl ?_; refine G_alloc 108 rfl (Tryd.zeroValue108 _) H ?_; clear H; intro b5 w1 H; (try simp only [Value.cells] at H)
      (try simp only [PT])
      apply seq_op (V := .int .i64 (k3 : Int)) rfl
      · exact fun _ h => O_as rfl rfl h
      (try simp only [PT])
      refine OpG.list rfl ?_; refine G_setNi 0 (c := [.int .i64 u2.kind, .string u2.key, .int .i64 u2.value, .slice A3o1 u2.list.length c3o1, .bool u2.has, .bool u2.isNil]) _ _ _ rfl (Tryd.sizeOf108 _) rfl rfl (by simp [Value.oneCell']) H rfl rfl ?_; clear H; intro w1 H; simp only [List.set_cons_succ, List.set_cons_zero] at H
      (try simp only [PT])
      refine list_end ?_
      refine then_norm ?_
      refine wp_seq ?_
      refine wp_region_lit ?_
      apply seq_op (V := .agg #[.int .i64 u2.kind, .string u2.key, .int .i64 u2.value, .slice A3o1 u2.list.length c3o1, .bool u2.has, .bool u2.isNil]) rfl
      · exact fun _ h => G_pNi 0 _ _ rfl (Tryd.isAgg108 _) rfl H rfl (Tryd.sizeOf108 _) h
      (try simp only [PT])
      refine seq_call rfl (fun Φ hΦ => by refine O_call1 rfl Tryd.func155 rfl rfl rfl hΦ) (pair_reads_w (a0 := u2) (h_p0_list := h3o1) (H := H)) ?_
      clear H
      rintro e w1 ⟨rfl, H⟩; refine ⟨_, rfl, ?_⟩
      (try simp only [PT])
      refine list_end ?_
      refine then_norm ?_
      refine wp_cond_split rfl (fun hc => ?_) (fun hc => ?_)
      · have hc2 := hc
        clear hc
        replace hq3 := ifT hc2 hq3
        refine wp_region_lit ?_
        apply seq_op (V := .slice (some ⟨bokk1, 0, none⟩) u1.length cr10) rfl
        · exact fun _ h => O_mv rfl rfl h
        (try simp only [PT])
        apply seq_op (V := .int .i64 (k3 : Int)) rfl
        · exact fun _ h => O_mv rfl rfl h
        (try simp only [PT])
        apply seq_op (V := .pointer (some ⟨b5, 0, none⟩)) rfl
        · exact fun _ h => O_fld rfl Tryd.underlying108 rfl (Tryd.sizeOf3 _) rfl h
        (try simp only [PT])
        apply seq_op (V := .int .i64 u2.kind) rfl
        · exact fun _ h => L_1 0 _ _ rfl (Tryd.isAgg3 _) rfl H rfl rfl h
        (try simp only [PT])
        apply seq_op (V := .pointer (some ⟨b5, 1, none⟩)) rfl
        · exact fun _ h => O_fld rfl Tryd.underlying108 rfl (Tryd.sizeOf9 _) rfl h
        (try simp only [PT])
        apply seq_op (V := .string u2.key) rfl
        · exact fun _ h => L_1 0 _ _ rfl (Tryd.isAgg9 _) rfl H rfl rfl h
        (try simp only [PT])
        apply seq_op (V := .agg #[.int .i64 u2.kind, .string u2.key, .int .i64 0, .slice none 0 0, .bool false, .bool false]) rfl
        · exact fun _ h => O_bld (cs := [.int .i64 u2.kind, .string u2.key, .int .i64 0, .slice none 0 0, .bool false, .bool false]) rfl (by kernel_rfl) h
        (try simp only [PT])
        apply seq_op (V := .pointer (some ⟨bokk1, kk1 * 6, none⟩)) rfl
        · exact fun _ h => O_ixn rfl Tryd.underlying71 (Tryd.sizeOf108 _) rfl rfl gk1 gngl1 h
        (try simp only [PT])
        refine OpG.list rfl ?_; refine G_ownsetN (d := kOp) 1 _ _ _ rfl (c := [.int .i64 u2.kind, .string u2.key, .int .i64 0, .slice none 0 0, .bool false, .bool false]) rfl (Tryd.sizeOf108 _) (x' := (⟨u2.kind, u2.key, 0, [], false, false⟩ : Op')) rfl rfl rfl H rfl gk1 gl1 (kOp_mk' (s := s1) (x := (⟨u2.kind, u2.key, 0, [], false, false⟩ : Op')) h0e1 h1e1 (by constructor <;> decide : Kin.inI64 0) Kin.Sl.nil) ?_; clear H; intro w1 H; simp only [List.set_cons_succ, List.set_cons_zero] at H
        (try simp only [PT])
        obtain ⟨gd2, gl2⟩ := setI_drop (x := (⟨u2.kind, u2.key, 0, [], false, false⟩ : Op')) gk1 gl1
        refine list_end ?_
        refine block_norm ?_
        refine then_norm ?_
        refine wp_region_lit ?_
        apply seq_op (V := .int .i64 (IntKind.i64.wrap ((k3 : Int) + 1))) rfl
        · exact fun _ h => O_bin rfl rfl rfl eqg_int r_add h
        (try simp only [PT])
        apply seq_op (V := .int .i64 (IntKind.i64.wrap ((k3 : Int) + 1))) rfl
        · exact fun _ h => O_mv rfl rfl h
        (try simp only [PT])
        refine list_end ?_
        refine then_norm ?_
        replace H := H.drop
        refine ⟨⟨⟨rfl, rfl, rfl, rfl, rfl, rfl, rfl, rfl, rfl, rfl⟩, rfl⟩, ⟨k3 + 1, r3', (setI y3_p0 (k3 : Int) (⟨u2.kind, u2.key, 0, [], false, false⟩ : Op')), hd3'', wrap_succ hl3 hn3, hq3, H⟩, ?_⟩
        exact meas_succ hl3 hn3
      · have hc2 := hc
        clear hc
        replace hq3 := ifF hc2 hq3
        refine wp_skip ?_
        refine block_norm ?_
        refine then_norm ?_
        refine wp_region_lit ?_
        apply seq_op (V := .int .i64 (IntKind.i64.wrap ((k3 : Int) + 1))) rfl
        · exact fun _ h => O_bin rfl rfl rfl eqg_int r_add h
        (try simp only [PT])
        apply seq_op (V := .int .i64 (IntKind.i64.wrap ((k3 : Int) + 1))) rfl
        · exact fun _ h => O_mv rfl rfl h
        (try simp only [PT])
        refine list_end ?_
        refine then_norm ?_
        replace H := H.drop
        refine ⟨⟨⟨rfl, rfl, rfl, rfl, rfl, rfl, rfl, rfl, rfl, rfl⟩, rfl⟩, ⟨k3 + 1, r3', y3_p0, hd3'', wrap_succ hl3 hn3, hq3, H⟩, ?_⟩
        exact meas_succ hl3 hn3
    · have hc1 := hc
      clear hc
      obtain rfl := irng_f hd3 hc1
      rw [pair_bare_l3] at hq3
      refine wp_exit ?_
      refine then_exit ?_
      refine then_exit ?_
      have hq3 := Option.some.inj hq3
      subst hq3
      (try dsimp only at hm)
      refine block_exit ?_
      refine then_norm ?_
      refine wp_seq ?_
      refine wp_region_lit ?_
      apply seq_op (V := .slice Ar10 u1.length cr10) rfl
      · exact fun _ h => O_mv rfl rfl h
      (try simp only [PT])
      apply seq_op (V := .slice Ar10 u1.length cr10) rfl
      · exact fun _ h => O_as rfl rfl h
      (try simp only [PT])
      refine list_end ?_
      refine then_norm ?_
      refine wp_ret ?_
      have hm := Option.some.inj hm
      subst hm
      exact ret1 rfl (rv_tmp rfl) rfl ⟨Ar10, cr10, u1.length, s1, rfl, hS, H⟩
def slices_Equal_I_l4 (a1 : List Int) : Nat → List Int → Option ((Bool ⊕ Unit))
  | k4, []  => some (.inr ())
  | k4, x4 :: r4 => (rdI a1 (k4 : Int)).bind fun u1 => if (x4 != u1) = true then (some (.inl false)) else (slices_Equal_I_l4 a1 (k4 + 1) r4)

def slices_Equal_I_f (a0 : List Int) (a1 : List Int) : Option Bool := if ((a0.length : Int) != (a1.length : Int)) = true then (some false) else ((slices_Equal_I_l4 a1 0 a0).bind fun | .inl z4_r => (some z4_r) | .inr () => (some true))

set_option maxHeartbeats 4000000 in
theorem slices_Equal_I_w {E : World} {s : SH} {L : List HP} {w : World} {a0 : List Int} {a1 : List Int} {A_p0 : Option Addr} {c_p0 : Nat} (h_p0 : kI.Sl s (.slice A_p0 a0.length c_p0) a0) {A_p1 : Option Addr} {c_p1 : Nat} (h_p1 : kI.Sl s (.slice A_p1 a1.length c_p1) a1) {R : Bool} (hm : slices_Equal_I_f a0 a1 = some R) (H : Holds E s (L) w) :
    Calls Tryd.prog 23 #[.slice A_p0 a0.length c_p0, .slice A_p1 a1.length c_p1] w fun e w' => e = .returned (.bool R) ∧ Holds E s (L) w' := by
  unfold slices_Equal_I_f at hm
  go_enter Tryd.func23, Tryd.ntmps23
  refine wp_seq ?_
  refine wp_region_lit ?_
  apply seq_op (V := .bool false) rfl
  · exact fun _ h => O_as rfl rfl h
  (try simp only [PT])
  refine list_end ?_
  refine then_norm ?_
  refine wp_seq ?_
  refine wp_seq ?_
  refine wp_region_lit ?_
  apply seq_op (V := .slice A_p0 a0.length c_p0) rfl
  · exact fun _ h => O_mv rfl rfl h
  (try simp only [PT])
  apply seq_op (V := .int .i64 (a0.length : Int)) rfl
  · exact fun _ h => O_len rfl Tryd.underlying27 rfl h
  (try simp only [PT])
  apply seq_op (V := .slice A_p1 a1.length c_p1) rfl
  · exact fun _ h => O_mv rfl rfl h
  (try simp only [PT])
  apply seq_op (V := .int .i64 (a1.length : Int)) rfl
  · exact fun _ h => O_len rfl Tryd.underlying27 rfl h
  (try simp only [PT])
  apply seq_op (V := .bool ((a0.length : Int) != (a1.length : Int))) rfl
  · exact fun _ h => O_bin rfl rfl rfl eqg_int r_neq h
  (try simp only [PT])
  refine list_end ?_
  refine then_norm ?_
  refine wp_cond_split rfl (fun hc => ?_) (fun hc => ?_)
  · have hc1 := hc
    clear hc
    replace hm := ifT hc1 hm
    refine wp_seq ?_
    refine wp_region_lit ?_
    apply seq_op (V := .bool false) rfl
    · exact fun _ h => O_as rfl rfl h
    (try simp only [PT])
    refine list_end ?_
    refine then_norm ?_
    refine wp_ret ?_
    refine then_ret ?_
    have hm := Option.some.inj hm
    subst hm
    exact ret1 rfl (rv_tmp rfl) rfl ⟨rfl, H⟩
  · have hc1 := hc
    clear hc
    replace hm := ifF hc1 hm
    refine wp_skip ?_
    refine then_norm ?_
    refine wp_seq ?_
    refine wp_seq ?_
    refine wp_region_lit ?_
    apply seq_op (V := .slice A_p0 a0.length c_p0) rfl
    · exact fun _ h => O_mv rfl rfl h
    (try simp only [PT])
    apply seq_op (V := .int .i64 (a0.length : Int)) rfl
    · exact fun _ h => O_len rfl Tryd.underlying27 rfl h
    (try simp only [PT])
    apply seq_op (V := .int .i64 0) rfl
    · exact fun _ h => O_mv rfl rfl h
    (try simp only [PT])
    refine list_end ?_
    refine then_norm ?_
    refine wp_block ?_
    obtain ⟨R4, hq4, hm⟩ := bs hm
    have hn4 := Nat.le_trans (len_le (d := kI) h_p0 (by decide)) (by decide : (140737488355328 : Nat) ≤ 9223372036854775807)
    refine wp_loopF [none, none, none, none, some 4, some 5, none, none, none, none, none, none, none, some 13, some 14, some 15, some 16, some 17, some 18, some 19, some 20, some 21, some 22, some 23, some 24, some 25] rfl (by simp) (fun f w => ∃ (k4 : Nat) (r4 : List Int), a0.drop k4 = r4 ∧ f 13 = .int .i64 (k4 : Int) ∧ slices_Equal_I_l4 a1 k4 r4 = some R4 ∧ Holds E s (L) w) (fun f w => a0.length - (intOf (f 13)).toNat) ?_ ?_
    · exact ⟨0, a0, rfl, rfl, hq4, H⟩
    · clear H
      intro f w hI
      obtain ⟨k4, r4, hd4, hf13, hq4', H⟩ := hI
      clear hq4; have hq4 := hq4'; clear hq4'
      simp only [ovm, mixM]
      simp only [hf13]; clear hf13
      refine wp_seq ?_
      refine wp_region_lit ?_
      apply seq_op (V := .bool (decide ((k4 : Int) < (a0.length : Int)))) rfl
      · exact fun _ h => O_bin rfl rfl rfl eqg_int r_lss h
      (try simp only [PT])
      refine list_end ?_
      refine then_norm ?_
      refine wp_seq ?_
      refine wp_cond_split rfl (fun hc => ?_) (fun hc => ?_)
      · have hc2 := hc
        clear hc
        obtain ⟨x4, r4', rfl, hd4', hd4'', hl4⟩ := rng_t hd4 hc2
        rw [slices_Equal_I_l4] at hq4
        refine wp_skip ?_
        refine then_norm ?_
        refine wp_seq ?_
        refine wp_block ?_
        refine wp_seq ?_
        refine wp_region_lit ?_
        apply seq_op (V := .int .i64 (k4 : Int)) rfl
        · exact fun _ h => O_mv rfl rfl h
        (try simp only [PT])
        apply seq_op (V := .int .i64 (k4 : Int)) rfl
        · exact fun _ h => O_as rfl rfl h
        (try simp only [PT])
        refine list_end ?_
        refine then_norm ?_
        refine wp_seq ?_
        obtain ⟨be1, oe1, rfl, hCe1, h0e1⟩ := kI_el h_p0 hd4'
        obtain ⟨u1, gx1, hq4⟩ := bs hq4
        obtain ⟨kk1, gk1, gl1, gd1⟩ := rdI_some gx1
        obtain ⟨be2, oe2, rfl, hCe2, h0e2⟩ := kI_el h_p1 gd1
        refine wp_draw_obO (k := 9) (sz := 26) (List.replicate 9 9) (fun _ => []) mixed (by simp) rfl (by kernel_rfl) (by kernel_rfl) (by kernel_rfl) H (by simp only [List.take_succ_cons, List.take_zero]; exact rfl) (by simp only [List.drop_succ_cons, List.drop_zero]; exact rfl)
          (fun y => by simp only [ov, Act.put, List.setIfInBounds_toArray, List.set_cons_succ, List.set_cons_zero, Nat.zero_add, Nat.reduceAdd]; exact rfl) ?_
        apply ObO.valw (V := .slice (some ⟨be1, oe1, none⟩) a0.length c_p0)
        · intro x; rfl
        · intro s' w' y Φ R hs H hG hΦ; refine wantG rfl ?_; refine O_mv rfl rfl ?_; exact hΦ _ _ (Sub.refl _) H
        apply ObO.valw (V := .int .i64 (k4 : Int))
        · intro x; rfl
        · intro s' w' y Φ R hs H hG hΦ; refine wantG rfl ?_; refine O_mv rfl rfl ?_; exact hΦ _ _ (Sub.refl _) H
        apply ObO.valw (V := .pointer (some ⟨be1, oe1 + k4 * 1, none⟩))
        · intro x; rfl
        · intro s' w' y Φ R hs H hG hΦ; simp only [List.nil_append, List.cons_append] at hG; have e0 : y 0 = _ := dh_get hG 0 rfl (by kernel_rfl); have e1 : y 1 = _ := dh_get hG 1 rfl (by kernel_rfl); simp only [e0, e1]; refine wantG rfl ?_; refine O_ix rfl Tryd.underlying27 (Tryd.sizeOf3 _) rfl rfl rfl hl4 ?_; exact hΦ _ _ (Sub.refl _) H
        apply ObO.valw (V := .int .i64 x4)
        · intro x; rfl
        · intro s' w' y Φ R hs H hG hΦ; simp only [List.nil_append, List.cons_append] at hG; have e2 : y 2 = _ := dh_get hG 2 rfl (by kernel_rfl); simp only [e2]; refine wantG rfl ?_; refine G_s1 _ _ rfl (Tryd.isAgg3 _) rfl H (hCe1.mono hs) 0 rfl rfl ?_; exact hΦ _ _ (Sub.refl _) H
        apply ObO.valw (V := .slice (some ⟨be2, oe2, none⟩) a1.length c_p1)
        · intro x; rfl
        · intro s' w' y Φ R hs H hG hΦ; refine wantG rfl ?_; refine O_mv rfl rfl ?_; exact hΦ _ _ (Sub.refl _) H
        apply ObO.valw (V := .int .i64 (k4 : Int))
        · intro x; rfl
        · intro s' w' y Φ R hs H hG hΦ; refine wantG rfl ?_; refine O_mv rfl rfl ?_; exact hΦ _ _ (Sub.refl _) H
        apply ObO.valw (V := .pointer (some ⟨be2, oe2 + kk1 * 1, none⟩))
        · intro x; rfl
        · intro s' w' y Φ R hs H hG hΦ; simp only [List.nil_append, List.cons_append] at hG; have e4 : y 4 = _ := dh_get hG 4 rfl (by kernel_rfl); have e5 : y 5 = _ := dh_get hG 5 rfl (by kernel_rfl); simp only [e4, e5]; refine wantG rfl ?_; refine O_ix rfl Tryd.underlying27 (Tryd.sizeOf3 _) rfl rfl gk1 gl1 ?_; exact hΦ _ _ (Sub.refl _) H
        apply ObO.valw (V := .int .i64 u1)
        · intro x; rfl
        · intro s' w' y Φ R hs H hG hΦ; simp only [List.nil_append, List.cons_append] at hG; have e6 : y 6 = _ := dh_get hG 6 rfl (by kernel_rfl); simp only [e6]; refine wantG rfl ?_; refine G_s1 _ _ rfl (Tryd.isAgg3 _) rfl H (hCe2.mono hs) 0 rfl rfl ?_; exact hΦ _ _ (Sub.refl _) H
        apply ObO.valw (V := .bool (x4 != u1))
        · intro x; rfl
        · intro s' w' y Φ R hs H hG hΦ; simp only [List.nil_append, List.cons_append] at hG; have e3 : y 3 = _ := dh_get hG 3 rfl (by kernel_rfl); have e7 : y 7 = _ := dh_get hG 7 rfl (by kernel_rfl); simp only [e3, e7]; refine wantG rfl ?_; refine O_bin rfl rfl rfl eqg_int r_neq ?_; exact hΦ _ _ (Sub.refl _) H
        clear H
        intro s3 w3 yy hs3 H hG
        replace H := (show Holds _ _ ([] ++ _) _ from H); rw [List.nil_append] at H
        simp only [List.nil_append, List.cons_append] at hG
        have e0 : yy 0 = _ := gh_get hG 0 rfl
        have e1 : yy 1 = _ := gh_get hG 1 rfl
        have e2 : yy 2 = _ := gh_get hG 2 rfl
        have e3 : yy 3 = _ := gh_get hG 3 rfl
        have e4 : yy 4 = _ := gh_get hG 4 rfl
        have e5 : yy 5 = _ := gh_get hG 5 rfl
        have e6 : yy 6 = _ := gh_get hG 6 rfl
        have e7 : yy 7 = _ := gh_get hG 7 rfl
        have e8 : yy 8 = _ := gh_get hG 8 rfl
        simp only [e0, e1, e2, e3, e4, e5, e6, e7, e8]
        clear hG e0 e1 e2 e3 e4 e5 e6 e7 e8
        replace H := H.forget hs3; clear hs3
        refine list_end ?_
        refine then_norm ?_
        refine wp_cond_split rfl (fun hc => ?_) (fun hc => ?_)
        · have hc3 := hc
          clear hc
          replace hq4 := ifT hc3 hq4
          refine wp_seq ?_
          refine wp_region_lit ?_
          apply seq_op (V := .bool false) rfl
          · exact fun _ h => O_as rfl rfl h
          (try simp only [PT])
          refine list_end ?_
          refine then_norm ?_
          refine wp_ret ?_
          refine block_ret ?_
          refine then_ret ?_
          refine then_ret ?_
          refine block_ret ?_
          refine then_ret ?_
          have hq4 := Option.some.inj hq4
          subst hq4
          (try dsimp only at hm)
          have hm := Option.some.inj hm
          subst hm
          exact ret1 rfl (rv_tmp rfl) rfl ⟨rfl, H⟩
        · have hc3 := hc
          clear hc
          replace hq4 := ifF hc3 hq4
          refine wp_skip ?_
          refine block_norm ?_
          refine then_norm ?_
          refine wp_region_lit ?_
          apply seq_op (V := .int .i64 (IntKind.i64.wrap ((k4 : Int) + 1))) rfl
          · exact fun _ h => O_bin rfl rfl rfl eqg_int r_add h
          (try simp only [PT])
          apply seq_op (V := .int .i64 (IntKind.i64.wrap ((k4 : Int) + 1))) rfl
          · exact fun _ h => O_mv rfl rfl h
          (try simp only [PT])
          refine list_end ?_
          refine then_norm ?_
          refine ⟨⟨⟨rfl, rfl, rfl, rfl, rfl, rfl, rfl, rfl, rfl, rfl, rfl, rfl⟩, rfl⟩, ⟨k4 + 1, _, hd4'', wrap_succ hl4 hn4, hq4, H⟩, ?_⟩
          exact meas_succ hl4 hn4
      · have hc2 := hc
        clear hc
        obtain rfl := rng_f hd4 hc2
        rw [slices_Equal_I_l4] at hq4
        refine wp_exit ?_
        refine then_exit ?_
        refine then_exit ?_
        have hq4 := Option.some.inj hq4
        subst hq4
        (try dsimp only at hm)
        refine block_exit ?_
        refine then_norm ?_
        refine wp_seq ?_
        refine wp_region_lit ?_
        apply seq_op (V := .bool true) rfl
        · exact fun _ h => O_as rfl rfl h
        (try simp only [PT])
        refine list_end ?_
        refine then_norm ?_
        refine wp_ret ?_
        have hm := Option.some.inj hm
        subst hm
        exact ret1 rfl (rv_tmp rfl) rfl ⟨rfl, H⟩
end Go.Proofs.YtemdmpgekegfhaaDoor
