/- CompsNobody, walked. -/
import Derived.Test.YtkpefjhmmemnjaaDoorCnb1
namespace Go.Proofs.YtkpefjhmmemnjaaDoor
open Go.RowKit
set_option linter.all false
set_option maxRecDepth 10000

theorem end0 {P : Program} {fn : Func} {R : Ending → World → Prop} {a : Act} {w : World} (h : fn.results = #[]) (hd : a.defers = []) (hR : R (.returned (.tuple #[])) w) : bodyPost P fn R .normal a w := ret0 h hd hR
theorem ins_z (f : Value) (w : World) : Calls Tryd.prog 38 #[.slice none 0 0, .int .i64 0, .int .i64 0, f] w fun e w' => e = .returned (.tuple #[]) ∧ w' = w := by
  go_enter Tryd.func38, Tryd.ntmps38
  go_wp2
  refine wp_loop_rounds 1 ?_
  rw [rounds_succ]
  go_wp2
  first | exact ret0 rfl rfl ⟨rfl, rfl⟩ | exact end0 rfl rfl ⟨rfl, rfl⟩
theorem pdq_z (k : Int) (f : Value) (w : World) : Calls Tryd.prog 25 #[.slice none 0 0, .int .i64 0, .int .i64 0, .int .i64 k, f] w fun e w' => e = .returned (.tuple #[]) ∧ w' = w := by
  have hi := ins_z f w
  go_enter Tryd.func25, Tryd.ntmps25
  go_wp2
  refine wp_loop_rounds 1 ?_
  rw [rounds_succ]
  go_wp2_with (go_at_call 38; refine hi.mono ?_; rintro e w' ⟨rfl, rfl⟩)
  first | exact ret0 rfl rfl ⟨rfl, rfl⟩ | exact end0 rfl rfl ⟨rfl, rfl⟩
theorem blen_z (w : World) : Calls Tryd.prog 26 #[.int .u64 0] w fun e w' => (∃ k, e = .returned (.int .i64 k)) ∧ w' = w := by
  go_enter Tryd.func26, Tryd.ntmps26
  go_wp2
  go_ret
  exact ⟨⟨_, rfl⟩, rfl⟩
theorem sort_z (f : Value) (w : World) : Calls Tryd.prog 13 #[.slice none 0 0, f] w fun e w' => e = .returned (.tuple #[]) ∧ w' = w := by
  have hb := blen_z w
  have hp := fun k => pdq_z k f w
  go_enter Tryd.func13, Tryd.ntmps13
  go_wp2_with (first
    | (go_at_call 26; refine hb.mono ?_; rintro e w' ⟨⟨k, rfl⟩, rfl⟩)
    | (go_at_call 25; refine (hp _).mono ?_; rintro e w' ⟨rfl, rfl⟩))
  first | exact ret0 rfl rfl ⟨rfl, rfl⟩ | exact end0 rfl rfl ⟨rfl, rfl⟩
set_option maxHeartbeats 2000000 in
theorem comps_z {E : World} {s : SH} {L : List HP} {w : World} {v : Value} (of : Int) (H : Holds E s L w) (h : Zg w v) :
    Calls Tryd.prog 5 #[v, .int .i64 of] w fun e w' => e = .returned (.slice none 0 0) ∧ Holds E s L w' := by
  obtain ⟨q, rfl⟩ : ∃ q, v = .pointer q := by rcases h with rfl | ⟨b, rfl, _⟩ <;> exact ⟨_, rfl⟩
  have hn := nodes_z h
  clear h
  go_enter Tryd.func5, Tryd.ntmps5
  go_wp2_with (go_at_call 9; refine hn.mono ?_; clear hn; rintro e w' ⟨rfl, rfl⟩)
  have hkI : ∀ i z, Tryd.prog.info? kI.e = some i → i.zero = some z → z.cells = #[Value.int .i64 0] := fun i z hi hz => by
    rw [show Tryd.prog.info? kI.e = some Tryd.t3 from info_of Tryd.type3] at hi; cases hi; cases hz; rfl
  have hkB : ∀ i z, Tryd.prog.info? (Kin.bool 4).e = some i → i.zero = some z → z.cells = #[Value.bool false] := fun i z hi hz => by
    rw [show Tryd.prog.info? (Kin.bool 4).e = some Tryd.t4 from info_of Tryd.type4] at hi; cases hi; cases hz; rfl
  refine wp_draw_ob (k := 10) (sz := 45) mixed (by simp) rfl (by kernel_rfl) (by kernel_rfl) H (by simp only [List.take_succ_cons, List.take_zero]; exact rfl) (by simp only [List.drop_succ_cons, List.drop_zero]; exact rfl)
    (fun y => by simp only [ov, Act.put, List.setIfInBounds_toArray, List.set_cons_succ, List.set_cons_zero]; exact rfl) ?_
  apply Ob.valw; (intro s' w1 x Φ hs H hG hΦ; simp [dh, isV, dep, Region.binds] at hG; (try simp only [hG]); refine wantG rfl ?_; go_simp; exact hΦ _ _ (Sub.refl _) H)
  apply Ob.valw; (intro s' w1 x Φ hs H hG hΦ; simp [dh, isV, dep, Region.binds] at hG; (try simp only [hG]); refine wantG rfl ?_; go_simp; exact hΦ _ _ (Sub.refl _) H)
  apply Ob.valw; (intro s' w1 x Φ hs H hG hΦ; simp [dh, isV, dep, Region.binds] at hG; (try simp only [hG]); refine wantG rfl ?_; go_simp; exact hΦ _ _ (Sub.refl _) H)
  refine Ob.rel (fun _ v => ∃ A n c, v = Value.slice A n c) (fun _ _ _ _ h => h) (fun s' w1 x Φ hs H hG hΦ => ?_) ?_
  · simp [dh, isV, dep, Region.binds] at hG; (try simp only [hG]); refine wantG rfl ?_; refine G_make1 kI_at _ _ rfl 0 rfl rfl (.int .i64 0) rfl hkI (by decide) H ?_; clear H; intro b w2 H; obtain ⟨s2, hs2, -, H2⟩ := H.freeze; exact hΦ _ s2 _ hs2 H2 ⟨_, _, _, rfl⟩
  apply Ob.valw; (intro s' w1 x Φ hs H hG hΦ; simp [dh, isV, dep, Region.binds] at hG; (try simp only [hG]); refine wantG rfl ?_; go_simp; exact hΦ _ _ (Sub.refl _) H)
  refine Ob.rel (fun _ v => ∃ A n c, v = Value.slice A n c) (fun _ _ _ _ h => h) (fun s' w1 x Φ hs H hG hΦ => ?_) ?_
  · simp [dh, isV, dep, Region.binds] at hG; (try simp only [hG]); refine wantG rfl ?_; refine G_make1 kI_at _ _ rfl 0 rfl rfl (.int .i64 0) rfl hkI (by decide) H ?_; clear H; intro b w2 H; obtain ⟨s2, hs2, -, H2⟩ := H.freeze; exact hΦ _ s2 _ hs2 H2 ⟨_, _, _, rfl⟩
  apply Ob.valw; (intro s' w1 x Φ hs H hG hΦ; simp [dh, isV, dep, Region.binds] at hG; (try simp only [hG]); refine wantG rfl ?_; go_simp; exact hΦ _ _ (Sub.refl _) H)
  refine Ob.rel (fun _ v => ∃ A n c, v = Value.slice A n c) (fun _ _ _ _ h => h) (fun s' w1 x Φ hs H hG hΦ => ?_) ?_
  · simp [dh, isV, dep, Region.binds] at hG; (try simp only [hG]); refine wantG rfl ?_; refine G_make1 kBo_at _ _ rfl 0 rfl rfl (.bool false) rfl hkB (by decide) H ?_; clear H; intro b w2 H; obtain ⟨s2, hs2, -, H2⟩ := H.freeze; exact hΦ _ s2 _ hs2 H2 ⟨_, _, _, rfl⟩
  refine Ob.rel (fun _ y => ∃ A1 n1 c1 A2 n2 c2 A3 n3 c3, y = Value.agg #[.pointer q, .int .i64 of, .int .i64 0, .slice A1 n1 c1, .slice A2 n2 c2, .slice A3 n3 c3, .slice none 0 0, .slice none 0 0]) (fun _ _ _ _ h => h) (fun s' w1 x Φ hs H hG hΦ => ?_) ?_
  · simp [dh, isV, dep, Region.binds] at hG
    obtain ⟨h0, h1, ⟨A1, n1, c1, h3⟩, ⟨A2, n2, c2, h5⟩, ⟨A3, n3, c3, h7⟩⟩ := hG
    simp only [h0, h1, h3, h5, h7]
    refine wantG rfl ?_
    go_simp
    exact hΦ _ s' _ (Sub.refl _) H ⟨_, _, _, _, _, _, _, _, _, rfl⟩
  refine Ob.rel (fun s y => ∃ p cs t, y = Value.pointer (some ⟨p, 0, none⟩) ∧ s p = some (.cells cs t (0, 0)) ∧ cs[7]? = some (.slice none 0 0)) (fun s s' y hs ⟨p, cs, t, h1, h2, h3⟩ => ⟨p, cs, t, h1, hs _ _ h2, h3⟩) (fun s' w1 x Φ hs H hG hΦ => ?_) ?_
  · simp [dh, isV, dep, Region.binds] at hG
    obtain ⟨A1, n1, c1, A2, n2, c2, A3, n3, c3, h8⟩ := hG
    simp only [h8]
    refine wantG rfl ?_
    refine G_box 43 (v := .agg #[_, _, _, _, _, _, _, _]) _ rfl rfl H ?_
    clear H
    intro p w3 H
    obtain ⟨s2, hs2, f2, H2⟩ := H.freeze
    exact hΦ _ s2 _ hs2 H2 ⟨p, _, _, rfl, f2, rfl⟩
  clear H
  intro s3 w3 x hs3 H hG
  simp [gh, isV] at hG
  obtain ⟨e0, e1, e2, ⟨A1, n1, c1, e3⟩, e4, ⟨A2, n2, c2, e5⟩, e6, ⟨A3, n3, c3, e7⟩, ⟨B1, m1, d1, B2, m2, d2, B3, m3, d3, e8⟩, ⟨p, e9, cs, ⟨t, hp⟩, h7⟩⟩ := hG
  simp only [e0, e1, e2, e3, e4, e5, e6, e7, e8, e9]
  have c7 : w3.cell? ⟨p, 7, none⟩ = some (.slice none 0 0) := by have := H.at_s hp; simp only [World.cell?, this]; exact h7
  have hst := fun f => sort_z f w3
  have H5 : Holds E s L w3 := H.forget hs3
  clear e0 e1 e2 e3 e4 e5 e6 e7 e8 e9 H
  go_wp2
  refine wp_loop_rounds 1 ?_
  rw [rounds_succ]
  go_wp2_with (go_at_call 13; refine (hst _).mono ?_; rintro e w' ⟨rfl, rfl⟩)
  go_ret
  exact ⟨rfl, H5⟩
abbrev QG (b l : Nat) : List HP := [pt l (.cells #[.pointer none, .pointer (some ⟨b, 0, none⟩)] 22 (0, 0)), pt b (.cells zG 26 (0, 0))]
theorem qg_z {E : World} {s : SH} {w : World} {b l : Nat} {v : Value} (H : Holds E s (QG b l) w) (h : v = .pointer none ∨ v = .pointer (some ⟨b, 0, none⟩)) : Zg w v := by
  rcases h with rfl | rfl
  · exact .inl rfl
  · have := (H.drop).at_pt
    exact .inr ⟨b, rfl, by simp [World.cell?, this], by simp [World.cell?, this]⟩
theorem qg_c0 {E : World} {s : SH} {w : World} {b l : Nat} (H : Holds E s (QG b l) w) : w.cell? ⟨l, 0, none⟩ = some (.pointer none) := by
  have := H.at_pt
  simp [World.cell?, this]
theorem qg_c1 {E : World} {s : SH} {w : World} {b l : Nat} (H : Holds E s (QG b l) w) : w.cell? ⟨l, 1, none⟩ = some (.pointer (some ⟨b, 0, none⟩)) := by
  have := H.at_pt
  simp [World.cell?, this]
set_option maxHeartbeats 2000000 in
theorem cnobody_w (w : World) (of : Int) (hT : Tz (all w)) : Calls Tryd.prog 3 #[.int .i64 of] w fun e w' => e = .returned (.bool true) ∧ Below w.heap.size w w' := by
  have H := (((Holds.start w).alloc (.cells zG 26)).alloc (.cells #[.pointer none, .pointer (some ⟨w.heap.size, 0, none⟩)] 22))
  have hs : (w.alloc (.cells zG 26)).heap.size = w.heap.size + 1 := by simp
  rw [hs] at H
  have cL0 := qg_c0 H
  have cL1 := qg_c1 H
  go_enter Tryd.func3, Tryd.ntmps3
  go_wp2
  generalize ((w.alloc (.cells zG 26)).alloc (.cells #[.pointer none, .pointer (some ⟨w.heap.size, 0, none⟩)] 22)) = W at H cL0 cL1 ⊢
  refine wp_loop_rounds 3 ?_
  rw [rounds_succ]
  go_wp2_with (first
    | (go_at_call 4; refine (order_z of (qg_z H (.inl rfl))).mono ?_; rintro e w' ⟨rfl, rfl⟩)
    | (go_at_call 5; refine (comps_z of H (qg_z H (.inl rfl))).mono ?_; clear H cL0 cL1; rintro e w' ⟨rfl, H⟩; have cL0 := qg_c0 H; have cL1 := qg_c1 H)
    | (go_at_call 6; refine (cyc_z of (qg_z H (.inl rfl))).mono ?_; rintro e w' ⟨rfl, rfl⟩))
  rw [rounds_succ]
  go_wp2_with (first
    | (go_at_call 4; refine (order_z of (qg_z H (.inr rfl))).mono ?_; rintro e w' ⟨rfl, rfl⟩)
    | (go_at_call 5; refine (comps_z of H (qg_z H (.inr rfl))).mono ?_; clear H cL0 cL1; rintro e w' ⟨rfl, H⟩; have cL0 := qg_c0 H; have cL1 := qg_c1 H)
    | (go_at_call 6; refine (cyc_z of (qg_z H (.inr rfl))).mono ?_; rintro e w' ⟨rfl, rfl⟩))
  rw [rounds_succ]
  go_wp2_with (go_at_call 7; refine (compsOrders_w 1 of hT (Kin.Sl.nil (d := kEd)) H).mono ?_; clear H cL0 cL1; rintro e w' ⟨rfl, s2, hs2, H⟩)
  go_ret
  exact ⟨rfl, Holds.toBelow hs2 H⟩
end Go.Proofs.YtkpefjhmmemnjaaDoor
