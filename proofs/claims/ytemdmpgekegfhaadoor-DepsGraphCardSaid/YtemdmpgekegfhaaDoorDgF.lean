/- The law DepsGraph, walked. -/
import Derived.Test.YtemdmpgekegfhaaDoorDgE
import Derived.RegionTactic
namespace Go.Proofs.YtemdmpgekegfhaaDoor
open Go.RowKit
set_option linter.all false
set_option maxRecDepth 10000

set_option maxHeartbeats 1000000 in
theorem dgraph_e {w : World} {z : Int} {v : Value} (hz : ¬ (0 ≤ z ∧ z ≤ 300)) : Calls Tryd.prog 25 #[.int .i64 z, v] w fun e w' => e = .returned (.tuple #[.pointer none, .int .i64 1]) ∧ w' = w := by
  go_enter Tryd.func25, Tryd.ntmps25
  go_wp2_with (go_at_call 59; refine (gnew_e hz).mono ?_; rintro e w' ⟨rfl, rfl⟩)
  exact ret2 rfl (rv_tmp rfl) (rv_tmp rfl) rfl ⟨rfl, rfl⟩
set_option maxHeartbeats 1000000 in
theorem xgraph_e {w : World} {z : Int} {v : Value} (hz : ¬ (0 ≤ z ∧ z ≤ 300)) : Calls Tryd.prog 26 #[.int .i64 z, v] w fun e w' => e = .returned (.tuple #[.pointer none, .int .i64 1]) ∧ w' = w := by
  go_enter Tryd.func26, Tryd.ntmps26
  go_wp2_with (go_at_call 60; refine (xnew_e hz).mono ?_; rintro e w' ⟨rfl, rfl⟩)
  exact ret2 rfl (rv_tmp rfl) (rv_tmp rfl) rfl ⟨rfl, rfl⟩
theorem dn_c {w : World} {a n : Nat} {s : SH} {E : World} {L : List HP} {F : Nat → Nat} (hG : Gr s a n F) (H : Holds E s L w) : Calls Tryd.prog 29 #[.pointer (some ⟨a, 0, none⟩)] w fun e w' => e = .returned (.int .i64 n) ∧ w' = w :=
  nodes_c (w := w) (a := a) (n := n) (by obtain ⟨W, ⟨R0, R1, R2, R3, hg, -⟩, -⟩ := hG; have := gr_c H hg 0; simpa using this)
set_option maxHeartbeats 1000000 in
theorem depsGraph_bad {E : World} {s : SH} {L : List HP} {w : World} {z : Int} {v : Value} (hz : ¬ (0 ≤ z ∧ z ≤ 300)) (H : Holds E s L w) :
    Calls Tryd.prog 5 #[.int .i64 z, v] w fun e w' => e = .returned (.bool true) ∧ ∃ s', Sub s s' ∧ Holds E s' L w' := by
  go_enter Tryd.func5, Tryd.ntmps5
  go_wp2_with (first
    | (go_at_call 25; refine (dgraph_e hz).mono ?_; rintro e w' ⟨rfl, rfl⟩)
    | (go_at_call 26; refine (xgraph_e hz).mono ?_; rintro e w' ⟨rfl, rfl⟩))
  exact ret1 rfl (rv_tmp rfl) rfl ⟨rfl, s, Sub.refl s, H⟩
set_option maxHeartbeats 1000000 in
theorem depsGraph_err {E : World} {s : SH} {L : List HP} {w : World} {n : Nat} {v : Value} {l : List Wy} (hn : n ≤ 300) (he : errL n l ≠ 0) (hl : kWy.Sl s v l) (H : Holds E s L w) :
    Calls Tryd.prog 5 #[.int .i64 n, v] w fun e w' => e = .returned (.bool true) ∧ ∃ s', Sub s s' ∧ Holds E s' L w' := by
  obtain ⟨A, c, rfl, -⟩ := id hl
  have HE := Lib.hid he
  clear he
  go_enter Tryd.func5, Tryd.ntmps5
  go_wp2_with (first
    | (go_at_call 25; refine (dgraph_c hn hl H).mono ?_; clear H; rintro e w' ⟨s1, hs1, H1, ⟨h0, -⟩ | ⟨-, rfl⟩⟩; exact absurd h0 HE.out)
    | (go_at_call 26; refine (xgraph_c hn (hl.mono hs1) H1).mono ?_; clear H1; rintro e w' ⟨s2, hs2, H2, ⟨h0, -⟩ | ⟨-, rfl⟩⟩; exact absurd h0 HE.out))
  exact ret1 rfl (rv_tmp rfl) rfl ⟨rfl, s2, hs1.trans hs2, H2⟩
set_option maxHeartbeats 4000000 in
theorem depsGraph_ok {E : World} {s : SH} {L : List HP} {w : World} {n : Nat} {v : Value} {l : List Wy} (hn : n ≤ 300) (he : errL n l = 0) (hT : Tz s) (hl : kWy.Sl s v l) (H : Holds E s L w) :
    Calls Tryd.prog 5 #[.int .i64 n, v] w fun e w' => e = .returned (.bool true) ∧ ∃ s', Sub s s' ∧ Holds E s' L w' := by
  obtain ⟨A, c, rfl, -, hby, -⟩ := id hl
  have hll : l.length ≤ 140737488355328 := by have h : l.length * 64 ≤ 140737488355328 := hby; omega
  clear hby
  have HE := Lib.hid he
  clear he
  have HM := Lib.hid (ML_lab n l)
  have HR := Lib.hid (relL n l _ _ (Rel.zero n))
  go_enter Tryd.func5, Tryd.ntmps5
  go_wp2_with (first
    | (go_at_call 25; refine (dgraph_c hn hl H).mono ?_; clear H; rintro e w' ⟨s1, hs1, H1, ⟨-, a, rfl, hG⟩ | ⟨h0, -⟩⟩; rotate_left; exact absurd HE.out h0)
    | (go_at_call 26; refine (xgraph_c hn (hl.mono hs1) H1).mono ?_; clear H1; rintro e w' ⟨s2, hs2, H2, ⟨-, b, rfl, hX⟩ | ⟨h0, -⟩⟩; rotate_left; exact absurd HE.out h0)
    | ((with_reducible refine OpG.list rfl ?_); refine M_make (K := kc2) (V := vcI) 48 rfl H2 ?_; clear H2; intro r w3 H3))
  have hl3 := hl.mono (hs1.trans hs2)
  have hG3 := hG.mono hs2
  clear hl hG
  have H3 : Holds E s2 (mpS kc2 vcI r [] :: L) w3 := H3
  have HL0 : RowKit.Hid (Lm (ML n (l.take 0)) []) := Lib.hid Lm.nil
  go_loopw [41] (fun i wr => ∃ (t : Nat) (m : List ((Int × Int) × Int)), t ≤ l.length ∧ i = .int .i64 t ∧ RowKit.Hid (Lm (ML n (l.take t)) m) ∧ Holds E s2 (mpS kc2 vcI r m :: L) wr) (fun i _ => l.length - (intOf i).toNat)
  case atStart => exact ⟨0, [], Nat.zero_le _, rfl, HL0, H3⟩
  case round =>
    clear H3 HL0
    obtain ⟨t, m, ht, rfl, hLm, H4⟩ := hrel
    by_cases hlt : t < l.length
    · obtain ⟨blk, off, cs, rfl, hK, hC⟩ := hl3.elem t hlt
      obtain ⟨rfl, -⟩ := kWy_op hK
      have h1 := kWy.one hK
      have hC : Cells s2 ⟨blk, off + t * 8, none⟩ _ := hC
      have hstep := ML_step (n := n) hlt
      have hae := errL_ok HE.out hlt
      obtain ⟨u, v, o, hfr, hto, hof, hu, hv, ho, hput⟩ := hLm.out.put (n := n) hae
      rw [hstep] at hput
      have hold := hLm.out.get u v
      have hmv := ML_lab n (l.take t) u v
      clear hK hstep hae
      generalize hW : l[t] = W at hC h1 hfr hto hof hput
      obtain ⟨Wf, Wt, Wl, Wk, Wa, Wb, Wn, Wc⟩ := W
      simp only at hfr hto hof hput hC h1
      subst hfr hto hof
      generalize ML n (l.take t) u v = q at hput hold hmv
      have HPUT := Lib.hid hput
      have HOLD := Lib.hid hold
      clear hput hold hW
      go_wp2_with ((with_reducible refine OpG.list rfl ?_); first
        | (refine G_sN _ _ rfl (Tryd.isAgg50 _) rfl H4 hC (Tryd.sizeOf50 _) ?_)
        | (refine G_alloc 50 rfl (Tryd.zeroValue50 _) H4 ?_; clear H4; intro g w4 H4)
        | (refine G_setN _ _ _ rfl (Tryd.sizeOf50 _) rfl rfl h1 H4 rfl ?_; clear H4; intro w5 H4))
      obtain ⟨⟨huq, hok⟩, H5⟩ := mps_open (i := 1) (K := kc2) (V := vcI) (r := r) (m := m) H4 rfl
      clear H4
      obtain ⟨es, cc, ⟨hes, hwf⟩, H6⟩ := mp_open H5
      clear H5
      have hk2 : kc2.ok ((u : Int), (v : Int)) := ⟨by constructor <;> simp <;> omega, by constructor <;> simp <;> omega⟩
      have hmg : (mget (em vcI m) ((u : Int), (v : Int))).getD (.int .i64 0) = .int .i64 (q : Nat) := by
        rw [em_get, ← HOLD.out]
        cases mgt m ((u : Int), (v : Int)) <;> rfl
      have hlk0 := fun (w : World) (hb : w.heap[r]? = some (.map es cc)) => look_run mk_2 48 Tryd.underlying48 hk2 (em_ok vcI fun p hp => (hok p hp).1) (em_uq vcI huq) hes (z := .int .i64 0) (Tryd.zeroValue3) hb
      obtain ⟨es1, c1, st, hme, hlk1, hst⟩ := entry_pre2 (r := r) mk_2 48 Tryd.underlying48 hk2 (em_ok vcI fun p hp => (hok p hp).1) (em_uq vcI huq) hes hwf (z := .int .i64 0) (Tryd.zeroValue3)
      obtain ⟨es2, he2, hwf2, hes2⟩ := hst (.int .i64 ((q ||| o : Nat) : Int))
      rw [hmg] at hlk0 hme hlk1
      clear hst hmg
      have eo := or_i64 q o hmv ho
      have H7 : Holds E s2 (pt g (.cells #[.int .i64 u, .int .i64 v, .int .i64 o, .string Wk, .int .i64 Wa, .int .i64 Wb, .bool Wn, .bool Wc] 50 (0, 0)) :: pt r (.map es cc) :: L) _ := H6.swap
      clear H6
      have HU := Lib.hid huq
      have HO := Lib.hid hok
      have HS := Lib.hid hes
      have HS2 := Lib.hid he2
      have HF := Lib.hid hwf2
      clear huq hok hes he2 hwf2 hwf
      refine wp_draw_P (k := 13) (sz := 95) [6, 9, 10, 11, 12] [[false, false, false, false, false], [false, false, true, false, false], [true, false, false, false, false], [false, false, true, true, false], [true, false, true, false, false], [true, true, false, false, false], [true, false, true, true, false], [true, true, true, false, false], [true, true, true, true, false], [true, true, true, true, true]] [(0, 0, 2), (0, 2, 1), (1, 0, 4), (1, 3, 3), (2, 1, 5), (2, 2, 4), (3, 0, 6), (4, 1, 7), (4, 3, 6), (5, 2, 7), (6, 1, 8), (7, 3, 8), (8, 4, 9)] [.map (some r), .pointer (some ⟨g, 0, none⟩), .int .i64 u, .pointer (some ⟨g, 1, none⟩), .int .i64 v, .agg #[.int .i64 u, .int .i64 v], undef, .pointer (some ⟨g, 2, none⟩), .int .i64 o, undef, undef, undef, undef] [pt g (.cells #[.int .i64 u, .int .i64 v, .int .i64 o, .string Wk, .int .i64 Wa, .int .i64 Wb, .bool Wn, .bool Wc] 50 (0, 0))] [fun w x => x 10 = .tuple #[.int .i64 (q : Nat), goInt st] ∧ Holds E s2 (pt g (.cells #[.int .i64 u, .int .i64 v, .int .i64 o, .string Wk, .int .i64 Wa, .int .i64 Wb, .bool Wn, .bool Wc] 50 (0, 0)) :: pt r (.map es1 c1) :: L) w,
         fun w x => x 6 = .int .i64 (q : Nat) ∧ Holds E s2 (pt g (.cells #[.int .i64 u, .int .i64 v, .int .i64 o, .string Wk, .int .i64 Wa, .int .i64 Wb, .bool Wn, .bool Wc] 50 (0, 0)) :: pt r (.map es cc) :: L) w,
         fun w x => x 10 = .tuple #[.int .i64 (q : Nat), goInt st] ∧ x 11 = goInt st ∧ Holds E s2 (pt g (.cells #[.int .i64 u, .int .i64 v, .int .i64 o, .string Wk, .int .i64 Wa, .int .i64 Wb, .bool Wn, .bool Wc] 50 (0, 0)) :: pt r (.map es1 c1) :: L) w,
         fun w x => x 6 = .int .i64 (q : Nat) ∧ x 10 = .tuple #[.int .i64 (q : Nat), goInt st] ∧ Holds E s2 (pt g (.cells #[.int .i64 u, .int .i64 v, .int .i64 o, .string Wk, .int .i64 Wa, .int .i64 Wb, .bool Wn, .bool Wc] 50 (0, 0)) :: pt r (.map es1 c1) :: L) w,
         fun w x => x 6 = .int .i64 (q : Nat) ∧ x 9 = .int .i64 ((q ||| o : Nat) : Int) ∧ Holds E s2 (pt g (.cells #[.int .i64 u, .int .i64 v, .int .i64 o, .string Wk, .int .i64 Wa, .int .i64 Wb, .bool Wn, .bool Wc] 50 (0, 0)) :: pt r (.map es cc) :: L) w,
         fun w x => x 6 = .int .i64 (q : Nat) ∧ x 10 = .tuple #[.int .i64 (q : Nat), goInt st] ∧ x 11 = goInt st ∧ Holds E s2 (pt g (.cells #[.int .i64 u, .int .i64 v, .int .i64 o, .string Wk, .int .i64 Wa, .int .i64 Wb, .bool Wn, .bool Wc] 50 (0, 0)) :: pt r (.map es1 c1) :: L) w,
         fun w x => x 6 = .int .i64 (q : Nat) ∧ x 9 = .int .i64 ((q ||| o : Nat) : Int) ∧ x 10 = .tuple #[.int .i64 (q : Nat), goInt st] ∧ Holds E s2 (pt g (.cells #[.int .i64 u, .int .i64 v, .int .i64 o, .string Wk, .int .i64 Wa, .int .i64 Wb, .bool Wn, .bool Wc] 50 (0, 0)) :: pt r (.map es1 c1) :: L) w,
         fun w x => x 6 = .int .i64 (q : Nat) ∧ x 9 = .int .i64 ((q ||| o : Nat) : Int) ∧ x 10 = .tuple #[.int .i64 (q : Nat), goInt st] ∧ x 11 = goInt st ∧ Holds E s2 (pt g (.cells #[.int .i64 u, .int .i64 v, .int .i64 o, .string Wk, .int .i64 Wa, .int .i64 Wb, .bool Wn, .bool Wc] 50 (0, 0)) :: pt r (.map es1 c1) :: L) w,
         fun w x => x 6 = .int .i64 (q : Nat) ∧ x 9 = .int .i64 ((q ||| o : Nat) : Int) ∧ x 10 = .tuple #[.int .i64 (q : Nat), goInt st] ∧ x 11 = goInt st ∧ Holds E s2 (pt g (.cells #[.int .i64 u, .int .i64 v, .int .i64 o, .string Wk, .int .i64 Wa, .int .i64 Wb, .bool Wn, .bool Wc] 50 (0, 0)) :: pt r (.map es2 c1) :: L) w]
        mixed (by simp) rfl (by kernel_rfl) (by kernel_rfl) (by kernel_rfl) (by simp) rfl H7 (by simp only [List.take_succ_cons, List.take_zero]; exact rfl) (by simp only [List.drop_succ_cons, List.drop_zero]; exact rfl)
        (fun x => by simp only [ov, Act.put, List.setIfInBounds_toArray, List.set_cons_succ, List.set_cons_zero, Nat.zero_add, Nat.reduceAdd]; exact rfl) ?_ ?_ ?_ ?_
      · refine ⟨?_, ?_, ?_, ?_, ?_, ?_, ?_, ?_, ?_, ?_, trivial⟩
        · intro w x hS; have H : Holds E s2 _ _ := hS; exact ⟨_, _, Sub.refl _, H⟩
        · intro w x hS; obtain ⟨e10, H⟩ := hS; exact ⟨_, _, Sub.refl _, H⟩
        · intro w x hS; obtain ⟨e6, H⟩ := hS; exact ⟨_, _, Sub.refl _, H⟩
        · intro w x hS; obtain ⟨e10, e11, H⟩ := hS; exact ⟨_, _, Sub.refl _, H⟩
        · intro w x hS; obtain ⟨e6, e10, H⟩ := hS; exact ⟨_, _, Sub.refl _, H⟩
        · intro w x hS; obtain ⟨e6, e9, H⟩ := hS; exact ⟨_, _, Sub.refl _, H⟩
        · intro w x hS; obtain ⟨e6, e10, e11, H⟩ := hS; exact ⟨_, _, Sub.refl _, H⟩
        · intro w x hS; obtain ⟨e6, e9, e10, H⟩ := hS; exact ⟨_, _, Sub.refl _, H⟩
        · intro w x hS; obtain ⟨e6, e9, e10, e11, H⟩ := hS; exact ⟨_, _, Sub.refl _, H⟩
        · intro w x hS; obtain ⟨e6, e9, e10, e11, H⟩ := hS; exact ⟨_, _, Sub.refl _, H⟩
      · refine ⟨?_, ?_, ?_, ?_, ?_, ?_, ?_, ?_, ?_, ?_, ?_, ?_, ?_, trivial⟩
        · refine .inr ?_; intro s' R w' x Φ hs H hx hΦ; refine wantG rfl ?_; refine O_mv rfl rfl ?_; exact hΦ
        · refine .inr ?_; intro s' R w' x Φ hs H hx hΦ; refine wantG rfl ?_; refine O_fld rfl Tryd.underlying50 rfl (Tryd.sizeOf3 _) rfl ?_; exact hΦ
        · refine .inr ?_; intro s' R w' x Φ hs H hx hΦ; have e1 : x 1 = .pointer (some ⟨g, 0, none⟩) := hx 1 (by decide) (by decide); simp only [e1]; refine wantG rfl ?_; refine L_1 0 _ _ rfl (Tryd.isAgg3 _) rfl H rfl rfl ?_; exact hΦ
        · refine .inr ?_; intro s' R w' x Φ hs H hx hΦ; refine wantG rfl ?_; refine O_fld rfl Tryd.underlying50 rfl (Tryd.sizeOf3 _) rfl ?_; exact hΦ
        · refine .inr ?_; intro s' R w' x Φ hs H hx hΦ; have e3 : x 3 = .pointer (some ⟨g, 1, none⟩) := hx 3 (by decide) (by decide); simp only [e3]; refine wantG rfl ?_; refine L_1 0 _ _ rfl (Tryd.isAgg3 _) rfl H rfl rfl ?_; exact hΦ
        · refine .inr ?_; intro s' R w' x Φ hs H hx hΦ; have e2 : x 2 = .int .i64 u := hx 2 (by decide) (by decide); have e4 : x 4 = .int .i64 v := hx 4 (by decide) (by decide); simp only [e2, e4]; refine wantG rfl ?_; refine O_bld (cs := [.int .i64 u, .int .i64 v]) rfl (by kernel_rfl) ?_; exact hΦ
        · exact .inl (by decide)
        · refine .inr ?_; intro s' R w' x Φ hs H hx hΦ; refine wantG rfl ?_; refine O_fld rfl Tryd.underlying50 rfl (Tryd.sizeOf3 _) rfl ?_; exact hΦ
        · refine .inr ?_; intro s' R w' x Φ hs H hx hΦ; have e7 : x 7 = .pointer (some ⟨g, 2, none⟩) := hx 7 (by decide) (by decide); simp only [e7]; refine wantG rfl ?_; refine L_1 0 _ _ rfl (Tryd.isAgg3 _) rfl H rfl rfl ?_; exact hΦ
        · exact .inl (by decide)
        · exact .inl (by decide)
        · exact .inl (by decide)
        · exact .inl (by decide)
      · refine ⟨?_, ?_, ?_, ?_, ?_, ?_, ?_, ?_, ?_, ?_, ?_, ?_, ?_, trivial⟩
        · intro c o S0 S1 hc ho h0 h1; obtain rfl := Option.some.inj hc; obtain rfl := Option.some.inj ho; obtain rfl := Option.some.inj h0; obtain rfl := Option.some.inj h1; intro w' x Φ hS hx hΦ
          have H : Holds E s2 _ _ := hS
          have e0 : x 0 = .map (some r) := hx 0 (by decide) (by decide); have e5 : x 5 = .agg #[.int .i64 u, .int .i64 v] := hx 5 (by decide) (by decide); simp only [e0, e5]; refine wantG rfl ?_; refine G_lookR 1 _ _ _ rfl rfl rfl H rfl hlk0 ?_; exact hΦ _ _ ⟨updV_same, H⟩
        · intro c o S0 S1 hc ho h0 h1; obtain rfl := Option.some.inj hc; obtain rfl := Option.some.inj ho; obtain rfl := Option.some.inj h0; obtain rfl := Option.some.inj h1; intro w' x Φ hS hx hΦ
          have H : Holds E s2 _ _ := hS
          have e0 : x 0 = .map (some r) := hx 0 (by decide) (by decide); have e5 : x 5 = .agg #[.int .i64 u, .int .i64 v] := hx 5 (by decide) (by decide); simp only [e0, e5]; refine wantG rfl ?_; refine G_mapEntry 1 _ _ _ rfl rfl rfl H rfl hme ?_; clear H; intro w6 H; simp only [List.set_cons_zero, List.set_cons_succ] at H; exact hΦ _ _ ⟨updV_same, H⟩
        · intro c o S0 S1 hc ho h0 h1; obtain rfl := Option.some.inj hc; obtain rfl := Option.some.inj ho; obtain rfl := Option.some.inj h0; obtain rfl := Option.some.inj h1; intro w' x Φ hS hx hΦ
          obtain ⟨e10, H⟩ := hS
          have e0 : x 0 = .map (some r) := hx 0 (by decide) (by decide); have e5 : x 5 = .agg #[.int .i64 u, .int .i64 v] := hx 5 (by decide) (by decide); simp only [e0, e5]; refine wantG rfl ?_; refine G_lookR 1 _ _ _ rfl rfl rfl H rfl hlk1 ?_; exact hΦ _ _ ⟨updV_same, (updV_ne (by decide)).trans e10, H⟩
        · intro c o S0 S1 hc ho h0 h1; obtain rfl := Option.some.inj hc; obtain rfl := Option.some.inj ho; obtain rfl := Option.some.inj h0; obtain rfl := Option.some.inj h1; intro w' x Φ hS hx hΦ
          obtain ⟨e10, H⟩ := hS
          simp only [e10]; refine wantG rfl ?_; refine O_ext (vs := [.int .i64 (q : Nat), goInt st]) rfl rfl rfl ?_; exact hΦ _ _ ⟨(updV_ne (by decide)).trans e10, updV_same, H⟩
        · intro c o S0 S1 hc ho h0 h1; obtain rfl := Option.some.inj hc; obtain rfl := Option.some.inj ho; obtain rfl := Option.some.inj h0; obtain rfl := Option.some.inj h1; intro w' x Φ hS hx hΦ
          obtain ⟨e6, H⟩ := hS
          have e8 : x 8 = .int .i64 o := hx 8 (by decide) (by decide); simp only [e6, e8]; refine wantG rfl ?_; refine O_bin (V := .int .i64 ((q ||| o : Nat) : Int)) rfl rfl rfl eqg_int (by rw [← eo]; rfl) ?_; exact hΦ _ _ ⟨(updV_ne (by decide)).trans e6, updV_same, H⟩
        · intro c o S0 S1 hc ho h0 h1; obtain rfl := Option.some.inj hc; obtain rfl := Option.some.inj ho; obtain rfl := Option.some.inj h0; obtain rfl := Option.some.inj h1; intro w' x Φ hS hx hΦ
          obtain ⟨e6, H⟩ := hS
          have e0 : x 0 = .map (some r) := hx 0 (by decide) (by decide); have e5 : x 5 = .agg #[.int .i64 u, .int .i64 v] := hx 5 (by decide) (by decide); simp only [e0, e5]; refine wantG rfl ?_; refine G_mapEntry 1 _ _ _ rfl rfl rfl H rfl hme ?_; clear H; intro w6 H; simp only [List.set_cons_zero, List.set_cons_succ] at H; exact hΦ _ _ ⟨(updV_ne (by decide)).trans e6, updV_same, H⟩
        · intro c o S0 S1 hc ho h0 h1; obtain rfl := Option.some.inj hc; obtain rfl := Option.some.inj ho; obtain rfl := Option.some.inj h0; obtain rfl := Option.some.inj h1; intro w' x Φ hS hx hΦ
          obtain ⟨e10, e11, H⟩ := hS
          have e0 : x 0 = .map (some r) := hx 0 (by decide) (by decide); have e5 : x 5 = .agg #[.int .i64 u, .int .i64 v] := hx 5 (by decide) (by decide); simp only [e0, e5]; refine wantG rfl ?_; refine G_lookR 1 _ _ _ rfl rfl rfl H rfl hlk1 ?_; exact hΦ _ _ ⟨updV_same, (updV_ne (by decide)).trans e10, (updV_ne (by decide)).trans e11, H⟩
        · intro c o S0 S1 hc ho h0 h1; obtain rfl := Option.some.inj hc; obtain rfl := Option.some.inj ho; obtain rfl := Option.some.inj h0; obtain rfl := Option.some.inj h1; intro w' x Φ hS hx hΦ
          obtain ⟨e6, e10, H⟩ := hS
          have e8 : x 8 = .int .i64 o := hx 8 (by decide) (by decide); simp only [e6, e8]; refine wantG rfl ?_; refine O_bin (V := .int .i64 ((q ||| o : Nat) : Int)) rfl rfl rfl eqg_int (by rw [← eo]; rfl) ?_; exact hΦ _ _ ⟨(updV_ne (by decide)).trans e6, updV_same, (updV_ne (by decide)).trans e10, H⟩
        · intro c o S0 S1 hc ho h0 h1; obtain rfl := Option.some.inj hc; obtain rfl := Option.some.inj ho; obtain rfl := Option.some.inj h0; obtain rfl := Option.some.inj h1; intro w' x Φ hS hx hΦ
          obtain ⟨e6, e10, H⟩ := hS
          simp only [e10]; refine wantG rfl ?_; refine O_ext (vs := [.int .i64 (q : Nat), goInt st]) rfl rfl rfl ?_; exact hΦ _ _ ⟨(updV_ne (by decide)).trans e6, (updV_ne (by decide)).trans e10, updV_same, H⟩
        · intro c o S0 S1 hc ho h0 h1; obtain rfl := Option.some.inj hc; obtain rfl := Option.some.inj ho; obtain rfl := Option.some.inj h0; obtain rfl := Option.some.inj h1; intro w' x Φ hS hx hΦ
          obtain ⟨e6, e9, H⟩ := hS
          have e0 : x 0 = .map (some r) := hx 0 (by decide) (by decide); have e5 : x 5 = .agg #[.int .i64 u, .int .i64 v] := hx 5 (by decide) (by decide); simp only [e0, e5]; refine wantG rfl ?_; refine G_mapEntry 1 _ _ _ rfl rfl rfl H rfl hme ?_; clear H; intro w6 H; simp only [List.set_cons_zero, List.set_cons_succ] at H; exact hΦ _ _ ⟨(updV_ne (by decide)).trans e6, (updV_ne (by decide)).trans e9, updV_same, H⟩
        · intro c o S0 S1 hc ho h0 h1; obtain rfl := Option.some.inj hc; obtain rfl := Option.some.inj ho; obtain rfl := Option.some.inj h0; obtain rfl := Option.some.inj h1; intro w' x Φ hS hx hΦ
          obtain ⟨e6, e10, e11, H⟩ := hS
          have e8 : x 8 = .int .i64 o := hx 8 (by decide) (by decide); simp only [e6, e8]; refine wantG rfl ?_; refine O_bin (V := .int .i64 ((q ||| o : Nat) : Int)) rfl rfl rfl eqg_int (by rw [← eo]; rfl) ?_; exact hΦ _ _ ⟨(updV_ne (by decide)).trans e6, updV_same, (updV_ne (by decide)).trans e10, (updV_ne (by decide)).trans e11, H⟩
        · intro c o S0 S1 hc ho h0 h1; obtain rfl := Option.some.inj hc; obtain rfl := Option.some.inj ho; obtain rfl := Option.some.inj h0; obtain rfl := Option.some.inj h1; intro w' x Φ hS hx hΦ
          obtain ⟨e6, e9, e10, H⟩ := hS
          simp only [e10]; refine wantG rfl ?_; refine O_ext (vs := [.int .i64 (q : Nat), goInt st]) rfl rfl rfl ?_; exact hΦ _ _ ⟨(updV_ne (by decide)).trans e6, (updV_ne (by decide)).trans e9, (updV_ne (by decide)).trans e10, updV_same, H⟩
        · intro c o S0 S1 hc ho h0 h1; obtain rfl := Option.some.inj hc; obtain rfl := Option.some.inj ho; obtain rfl := Option.some.inj h0; obtain rfl := Option.some.inj h1; intro w' x Φ hS hx hΦ
          obtain ⟨e6, e9, e10, e11, H⟩ := hS
          have e0 : x 0 = .map (some r) := hx 0 (by decide) (by decide); simp only [e0, e9, e11]; refine wantG rfl ?_; refine G_entryStore 1 _ _ _ _ rfl rfl rfl rfl H rfl hes2 ?_; clear H; intro w6 H; simp only [List.set_cons_zero, List.set_cons_succ] at H; exact hΦ _ _ ⟨(updV_ne (by decide)).trans e6, (updV_ne (by decide)).trans e9, (updV_ne (by decide)).trans e10, (updV_ne (by decide)).trans e11, H⟩
      · clear H7 hlk0 hlk1 hme hes2
        intro w' x hS hx
        obtain ⟨e6, e9, e10, e11, H⟩ := hS
        have e0 : x 0 = .map (some r) := hx 0 (by decide) (by decide)
        have e1 : x 1 = .pointer (some ⟨g, 0, none⟩) := hx 1 (by decide) (by decide)
        have e2 : x 2 = .int .i64 u := hx 2 (by decide) (by decide)
        have e3 : x 3 = .pointer (some ⟨g, 1, none⟩) := hx 3 (by decide) (by decide)
        have e4 : x 4 = .int .i64 v := hx 4 (by decide) (by decide)
        have e5 : x 5 = .agg #[.int .i64 u, .int .i64 v] := hx 5 (by decide) (by decide)
        have e7 : x 7 = .pointer (some ⟨g, 2, none⟩) := hx 7 (by decide) (by decide)
        have e8 : x 8 = .int .i64 o := hx 8 (by decide) (by decide)
        simp only [e0, e1, e2, e3, e4, e5, e6, e7, e8, e9, e10, e11]
        clear hx e0 e1 e2 e3 e4 e5 e6 e7 e8 e9 e10 e11
        have H8 : Holds E s2 (mpS kc2 vcI r (mpt m ((u : Int), (v : Int)) ((q ||| o : Nat) : Int)) :: L) w' := H.drop.map fun _ k => ⟨⟨mpt_uq HU.out _ _, fun p hp => (mpt_mem hp).elim (fun e => by rw [e]; exact ⟨hk2, trivial⟩) (HO.out p)⟩, es2, c1, ⟨by rw [← em_put]; exact HS2.out, HF.out⟩, k⟩
        clear H HU HO HS HS2 HF eo
        go_wp2
        refine ⟨⟨t + 1, _, by omega, rfl, HPUT, H8⟩, ?_⟩
        simp only [intOf]; omega
    · have htl : t = l.length := by omega
      rw [htl, List.take_length] at hLm
      subst htl
      have HM2 := Lib.hid (Lm.len (n := n) hLm.out (ML_in n l _ (fun u v h => absurd rfl h)))
      have HG2 := Lib.hid hLm.out.get
      have HEL := Lib.hid (fun x (hx : x ∈ edK n (ML n l) n) => edK_lab hx)
      have HR2 : RowKit.Hid (Rel n (FL n l) (ML n l)) := HR
      clear HR hLm hlt
      have hel := edK_len n (ML n l) n
      have hnn : n * n ≤ 300 * 300 := Nat.mul_le_mul hn hn
      go_wp2_with (go_at_call 27; refine (gedges_x hn H4 hG3 (hT.mono (hs1.trans hs2)) HR2.out).mono ?_; clear H4; rintro e w5 ⟨v1, s3, rfl, hs3, H5⟩; obtain ⟨A1, cap1, rfl, -, -, -⟩ := H5.len; obtain ⟨s4, hs4, H6, hSl⟩ := Kin.Osl.fr H5; clear H5)
      go_loopw [61] (fun i wr2 => ∃ t : Nat, t ≤ (edK n (ML n l) n).length ∧ i = .int .i64 t ∧ Holds E s4 (mpS kc2 vcI r m :: L) wr2) (fun i _ => (edK n (ML n l) n).length - (intOf i).toNat)
      case atStart => exact ⟨0, Nat.zero_le _, rfl, H6⟩
      case round =>
        clear H6
        obtain ⟨t, ht2, rfl, H7⟩ := hrel
        by_cases hlt2 : t < (edK n (ML n l) n).length
        · obtain ⟨blk, off, cs, rfl, hK, hC⟩ := hSl.elem t hlt2
          obtain ⟨rfl, -⟩ := kEd_op hK
          have h1 := kEd.one hK
          have hC : Cells s4 ⟨blk, off + t * 3, none⟩ _ := hC
          obtain ⟨u, v, hu, hv, hx⟩ := HEL.out _ (List.getElem_mem hlt2)
          rw [hx] at hC h1
          simp only at hC h1
          clear hK hx
          have hg := HG2.out u v
          generalize ML n l u v = q at hC h1 hg
          have HG3 := Lib.hid hg
          clear hg
          have hk2 : kc2.ok ((u : Int), (v : Int)) := ⟨by constructor <;> simp <;> omega, by constructor <;> simp <;> omega⟩
          go_wp2_with ((with_reducible refine OpG.list rfl ?_); first
            | (refine G_sN _ _ rfl (Tryd.isAgg37 _) rfl H7 hC (Tryd.sizeOf37 _) ?_)
            | (refine G_alloc 37 rfl (Tryd.zeroValue37 _) H7 ?_; clear H7; intro g w6 H7)
            | (refine G_setN _ _ _ rfl (Tryd.sizeOf37 _) rfl rfl h1 H7 rfl ?_; clear H7; intro w7 H7))
          refine wp_draw_ob (k := 10) (sz := 95) mixed (by simp) rfl (by kernel_rfl) (by kernel_rfl) H7 (by simp only [List.take_succ_cons, List.take_zero]; exact rfl) (by simp only [List.drop_succ_cons, List.drop_zero]; exact rfl)
            (fun y => by simp only [ov, Act.put, List.setIfInBounds_toArray, List.set_cons_succ, List.set_cons_zero]; exact rfl) ?_
          iterate 10 (apply Ob.valw; (intro s' w' y Φ hs H hG hΦ; simp [dh, isV, dep, Region.binds] at hG; (try simp only [hG]); first
            | (refine wantN rfl ?_; exact hΦ _ _ (Sub.refl _) H)
            | (refine wantY rfl ?_; first
              | (refine O_fld rfl Tryd.underlying37 rfl (Tryd.sizeOf3 _) rfl ?_; exact hΦ _ _ (Sub.refl _) H)
              | (refine L_1 0 _ _ rfl (Tryd.isAgg3 _) rfl H rfl rfl ?_; exact hΦ _ _ (Sub.refl _) H)
              | (refine O_bld (cs := [.int .i64 u, .int .i64 v]) rfl (by kernel_rfl) ?_; exact hΦ _ _ (Sub.refl _) H)
              | (refine M_get (K := kc2) (V := vcI) (m := m) (k := ((u : Int), (v : Int))) mk_2 1 48 _ _ rfl Tryd.underlying48 hk2 rfl rfl H rfl (z := (0 : Int)) (Tryd.zeroValue3 _) ?_; rw [HG3.out]; exact hΦ _ _ (Sub.refl _) H)
              | (go_simp; exact hΦ _ _ (Sub.refl _) H))))
          clear H7
          intro s5 w8 yy hs5 H8 hG8
          simp [gh, isV] at hG8
          simp only [hG8]
          clear hG8
          go_wp2
          refine ⟨⟨t + 1, by omega, rfl, (H8.forget hs5).drop⟩, ?_⟩
          simp only [intOf]; omega
        · have htl2 : t = (edK n (ML n l) n).length := by omega
          subst htl2
          go_wp2_with (first
            | (go_at_call 27; refine (gedges_x hn H7 ((hG3.mono hs3).mono hs4) (hT.mono (((hs1.trans hs2).trans hs3).trans hs4)) HR2.out).mono ?_; clear H7; rintro e w9 ⟨v2, s5, rfl, hs5, H8⟩; obtain ⟨s6, hs6, H9, hSl2⟩ := Kin.Osl.fr H8; clear H8)
            | (go_at_call 21; refine (xedges_x hn H9 ((((hX.mono hs3).mono hs4).mono hs5).mono hs6) HM.out).mono ?_; clear H9; rintro e w10 ⟨v3, rfl, H10⟩; obtain ⟨s7, hs7, H11, hSl3⟩ := Kin.Osl.fr H10; clear H10)
            | (go_at_call 28; refine (eqEdsD (hSl2.mono hs7) hSl3 H11).mono ?_; clear H11; rintro e w11 ⟨rfl, H12⟩)
            | (go_at_call 21; refine (xedges_x hn H12 (((((hX.mono hs3).mono hs4).mono hs5).mono hs6).mono hs7) HM.out).mono ?_; clear H12; rintro e w12 ⟨v4, rfl, H13⟩; obtain ⟨A4, k4, rfl, -, -, -⟩ := H13.len
               obtain ⟨-, H14⟩ := mps_open (i := 1) (K := kc2) (V := vcI) (r := r) (m := m) H13 rfl; obtain ⟨es, cc, ⟨hes, -⟩, H15⟩ := mp_open H14; have hlm := len_map (ty := 3) Tryd.underlying48 H15.at_pt
               rw [show es.size = (edK n (ML n l) n).length by have := congrArg List.length hes; simp [em] at this; rw [this]; exact HM2.out] at hlm; clear H13 H14 hes)
            | (go_at_call 29; refine (dn_c (((((hG3.mono hs3).mono hs4).mono hs5).mono hs6).mono hs7) H15).mono ?_; rintro e w13 ⟨rfl, rfl⟩))
          exact ret1 rfl (rv_tmp rfl) rfl ⟨rfl, s7, (((((hs1.trans hs2).trans hs3).trans hs4).trans hs5).trans hs6).trans hs7, H15.drop.drop⟩
theorem depsGraph_w {E : World} {s : SH} {L : List HP} {w : World} (z : Int) {v : Value} {l : List Wy} (hT : Tz s) (hl : kWy.Sl s v l) (H : Holds E s L w) :
    Calls Tryd.prog 5 #[.int .i64 z, v] w fun e w' => e = .returned (.bool true) ∧ ∃ s', Sub s s' ∧ Holds E s' L w' := by
  by_cases hz : 0 ≤ z ∧ z ≤ 300
  · obtain ⟨n, rfl⟩ : ∃ n : Nat, z = n := ⟨z.toNat, by omega⟩
    by_cases he : errL n l = 0
    · exact depsGraph_ok (by omega) he hT hl H
    · exact depsGraph_err (by omega) he hl H
  · exact depsGraph_bad hz H
end Go.Proofs.YtemdmpgekegfhaaDoor
