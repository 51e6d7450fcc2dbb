/- Graphs that are made, the document beside them. -/
import Derived.Test.YtemdmpgekegfhaaDoorGx1
import Derived.Test.YtemdmpgekegfhaaDoorDrawP
import Derived.Test.YtemdmpgekegfhaaDoorFnv
import Derived.Test.YtemdmpgekegfhaaDoorSlc
import Derived.Lib.Hide
import Derived.StillTailTactics
import Derived.Test.YtemdmpgekegfhaaDoorOpen
import Derived.Test.YtemdmpgekegfhaaDoorData
import Derived.Test.YtemdmpgekegfhaaDoorDrawC
import Derived.Test.YtemdmpgekegfhaaDoorFx
section
namespace Go.Proofs.YtemdmpgekegfhaaDoor
open Go.RowKit
set_option linter.all false
set_option maxRecDepth 10000

theorem kPS_at : kPS.At Tryd.prog 118 := ⟨Tryd.underlying118, by decide, Tryd.t165, _, info_of Tryd.type165, rfl, rfl, rfl, rfl⟩
/-- A row of the graph: its sets, and where their words are. -/
def RowF (s : SH) (R : Value) (i n m : Nat) (W : Nat → Nat) : Prop := ∃ X : List Nat, X.length = m ∧ kPS.Sl s R X ∧ ∀ t p, X[t]? = some p → SetAt s p (W (i * n + t)) n
def gC (n : Nat) (R : Nat → Value) : Array Value := #[.int .i64 n, R 0, R 1, R 2, R 3, .bool true]
theorem gC_set {n i : Nat} {R : Nat → Value} (v : Value) (h : i < 4) : (gC n R).setIfInBounds (1 + i) v = gC n (upF R i v) := by
  have : i = 0 ∨ i = 1 ∨ i = 2 ∨ i = 3 := by omega
  rcases this with rfl | rfl | rfl | rfl <;> simp [gC, upF]
theorem gC_get {n i : Nat} {R : Nat → Value} (h : i < 4) : (gC n R)[1 + i]? = some (R i) := by
  have : i = 0 ∨ i = 1 ∨ i = 2 ∨ i = 3 := by omega
  rcases this with rfl | rfl | rfl | rfl <;> rfl
abbrev nwP (n : Nat) (W : Nat → Nat) (k : Nat) : List HP := fam (fun j => wordP n 0 (W j)) k
theorem nwP_snoc {E : World} {s : SH} {L : List HP} {w : World} {n b k : Nat} {W : Nat → Nat} {B C : HP} (H : Holds E s (wordP n 0 b :: B :: C :: (nwP n W k ++ L)) w) : Holds E s (B :: C :: (nwP n (upF W k b) (k + 1) ++ L)) w := by
  have e : (upF (fun j => wordP n 0 (W j)) k (wordP n 0 b)) = fun j => wordP n 0 (upF W k b j) := by
    funext j; unfold upF; split <;> rfl
  have H1 : Holds E s (wordP n 0 b :: (nwP n W k ++ (B :: C :: L))) w := by
    refine H.perm (List.Perm.cons _ ?_)
    exact ((List.perm_middle (l₁ := nwP n W k) (a := B) (l₂ := C :: L)).trans (List.Perm.cons _ List.perm_middle)).symm
  have H2 := fam_snoc H1
  rw [e] at H2
  exact H2.perm ((List.perm_middle (a := B) (l₂ := C :: L)).trans (List.Perm.cons _ List.perm_middle))
theorem RowF.mono {s t : SH} (hs : Sub s t) {R : Value} {i n m : Nat} {W : Nat → Nat} (h : RowF s R i n m W) : RowF t R i n m W := by
  obtain ⟨X, h1, h2, h3⟩ := h
  exact ⟨X, h1, h2.mono hs, fun a p hp => (h3 a p hp).mono hs⟩
theorem RowF.upd {s : SH} {R : Value} {i n m k b : Nat} {W : Nat → Nat} (h : RowF s R i n m W) (hk : i * n + m ≤ k) : RowF s R i n m (upF W k b) := by
  obtain ⟨X, h1, h2, h3⟩ := h
  refine ⟨X, h1, h2, fun a p hp => ?_⟩
  have ha : a < X.length := (List.getElem?_eq_some_iff.1 hp).1
  rw [upF_ne _ _ (by omega)]
  exact h3 a p hp
theorem GrS_of {s : SH} {a n : Nat} {R : Nat → Value} {W : Nat → Nat} (hg : s a = some (.cells (gC n R) 121 (0, 0))) (hr : ∀ i, i < 4 → RowF s (R i) i n n W) : GrS s a n W := by
  refine ⟨R 0, R 1, R 2, R 3, hg, fun i hi => ?_⟩
  obtain ⟨X, h1, h2, h3⟩ := hr i hi
  have h2' := h2
  obtain ⟨A, c, e, -⟩ := h2
  rw [h1] at e
  refine ⟨A, c, ?_, fun j hj => ?_⟩
  · have : i = 0 ∨ i = 1 ∨ i = 2 ∨ i = 3 := by omega
    rcases this with rfl | rfl | rfl | rfl <;> simpa using e
  · rw [e] at h2'
    obtain ⟨b, off, cs, e1, hK, hC⟩ := h2'.elem j (by omega)
    obtain ⟨rfl, -⟩ := hK
    exact ⟨b, off, X[j], e1, by have e2 : off + j * kPS.sz = off + j := by rw [show kPS.sz = 1 from rfl, Nat.mul_one]
                                rw [e2] at hC; exact hC, h3 j _ (List.getElem?_eq_getElem (by omega))⟩
set_option maxHeartbeats 1000000 in
theorem gnew_c {E : World} {s : SH} {L : List HP} {w : World} {n : Nat} (hn : n ≤ 300) (H : Holds E s L w) :
    Calls Tryd.prog 59 #[.int .i64 n] w fun e w' => ∃ a s' W, e = .returned (.tuple #[.pointer (some ⟨a, 0, none⟩), .int .i64 0]) ∧ Sub s s' ∧ GrS s' a n W ∧ Holds E s' (grP n (fun _ => 0) W ++ L) w' := by
  go_enter Tryd.func59, Tryd.ntmps59
  go_wp2_with ((with_reducible refine OpG.list rfl ?_); (refine G_box 121 (v := .agg #[_, _, _, _, _, _]) _ rfl rfl H ?_; clear H; intro a w3 H))
  have H : Holds E s (pt a (.cells (gC n fun _ => .slice none 0 0) 121 (0, 0)) :: (nwP n (fun _ => 0) 0 ++ L)) w3 := H
  go_loopw [17] (fun i wr => ∃ (k : Nat) (s1 : SH) (R : Nat → Value) (W : Nat → Nat), k ≤ 4 ∧ i = .int .i64 k ∧ Sub s s1 ∧ RowKit.Hid (∀ j, j < k → RowF s1 (R j) j n n W) ∧ RowKit.Hid (∀ j, k ≤ j → R j = .slice none 0 0) ∧
    Holds E s1 (pt a (.cells (gC n R) 121 (0, 0)) :: (nwP n W (k * n) ++ L)) wr) (fun i _ => 4 - (intOf i).toNat)
  case atStart => exact ⟨0, s, _, _, Nat.zero_le _, rfl, Sub.refl s, Lib.hid fun j hj => absurd hj (Nat.not_lt_zero j), Lib.hid fun _ _ => rfl, by rw [Nat.zero_mul]; exact H⟩
  case round =>
    clear H
    obtain ⟨k, s1, R, W, hk, rfl, hs1, hR, hN, H⟩ := hrel
    by_cases hlt : k < 4
    · have H : Holds E s1 (pt a (.cells (gC n R) 121 (0, 0)) :: kPS.Osl (R k) [] :: (nwP n W (k * n) ++ L)) wr := by
        rw [hN.out k (Nat.le_refl _)]; exact (Kin.Osl.nil H).swap
      have h4 : decide ((k : Int) < 4) = true := by simp; omega
      go_wp2
      go_loopw [21] (fun j wr => ∃ (t : Nat) (s2 : SH) (R2 : Nat → Value) (W2 : Nat → Nat) (X : List Nat), t ≤ n ∧ j = .int .i64 t ∧ Sub s s2 ∧ X.length = t ∧ RowKit.Hid (∀ j, j < k → RowF s2 (R2 j) j n n W2) ∧ RowKit.Hid (∀ j, k < j → R2 j = .slice none 0 0) ∧
        RowKit.Hid (∀ t p, X[t]? = some p → SetAt s2 p (W2 (k * n + t)) n) ∧
        Holds E s2 (pt a (.cells (gC n R2) 121 (0, 0)) :: kPS.Osl (R2 k) X :: (nwP n W2 (k * n + t) ++ L)) wr) (fun j _ => n - (intOf j).toNat)
      case atStart => exact ⟨0, s1, R, W, [], Nat.zero_le _, rfl, hs1, rfl, hR, Lib.hid fun j hj => hN.out j (by omega), Lib.hid fun t p h => by simp at h, H⟩
      case round =>
        clear H hR hN
        obtain ⟨t, s2, R2, W2, X, ht, rfl, hs2, hX, hR, hN, hF, H⟩ := hrel
        by_cases hlt2 : t < n
        · go_wp2_with (go_at_call 97; refine (bnew_c hn H).mono ?_; clear H; rintro e w' ⟨p, b, s3, rfl, hs3, hset, H⟩)
          have H := nwP_snoc (k := k * n + t) H
          have hR2 : RowKit.Hid (∀ j, j < k → RowF s3 (R2 j) j n n (upF W2 (k * n + t) b)) := Lib.hid fun j hj => ((hR.out j hj).mono hs3).upd (by have := Nat.mul_le_mul_right n (show j + 1 ≤ k by omega); rw [Nat.succ_mul] at this; omega)
          have hF2 : RowKit.Hid (∀ t' p', (X ++ [p])[t']? = some p' → SetAt s3 p' (upF W2 (k * n + t) b (k * n + t')) n) := Lib.hid fun t' p' h => by
            by_cases e : t' < X.length
            · rw [List.getElem?_append_left e] at h
              rw [upF_ne _ _ (by omega)]
              exact (hF.out t' p' h).mono hs3
            · have e2 : t' = X.length := by
                have := (List.getElem?_eq_some_iff.1 h).1
                simp at this; omega
              subst e2
              rw [List.getElem?_append_right (Nat.le_refl _), Nat.sub_self] at h
              simp at h
              subst h
              rw [hX, upF_at]; exact hset
          clear hR hF hset
          generalize upF W2 (k * n + t) b = W3 at H hR2 hF2
          have hgk : ([Value.int .i64 n, R2 0, R2 1, R2 2, R2 3, .bool true] : List Value)[1 + k]? = some (R2 k) := by have := gC_get (n := n) (R := R2) hlt; simpa [gC] using this
          have h4i : (k : Int) < 4 := by omega
          refine wp_draw_P (k := 15) (sz := 48) [7, 9, 10, 14] [[false, false, false, false], [true, false, false, false], [false, true, false, false], [true, true, false, false], [true, true, true, false], [true, true, true, true]] [(0, 0, 1), (0, 1, 2), (1, 1, 3), (2, 0, 3), (3, 2, 4), (4, 3, 5)] [.pointer (some ⟨a, 0, none⟩), .int .i64 k, .pointer (some ⟨a, 0, none⟩), .int .i64 k, .pointer (some ⟨a, 0, none⟩), .pointer (some ⟨a, 1, none⟩), .pointer (some ⟨a, 1 + k, none⟩), undef, .pointer (some ⟨p, 0, none⟩), undef, undef, .pointer (some ⟨a, 0, none⟩), .pointer (some ⟨a, 1, none⟩), .pointer (some ⟨a, 1 + k, none⟩), undef] [] [fun w x => x 7 = R2 k ∧ Holds E s3 (pt a (.cells (gC n R2) 121 (0, 0)) :: kPS.Osl (R2 k) X :: (nwP n W3 (k * n + t + 1) ++ L)) w,
             fun w x => ∃ g2, x 9 = .slice (some ⟨g2, 0, none⟩) 1 1 ∧ Holds E s3 (pt g2 (.cells #[.pointer (some ⟨p, 0, none⟩)] 165 (0, 0)) :: pt a (.cells (gC n R2) 121 (0, 0)) :: kPS.Osl (R2 k) X :: (nwP n W3 (k * n + t + 1) ++ L)) w,
             fun w x => ∃ g2, x 7 = R2 k ∧ x 9 = .slice (some ⟨g2, 0, none⟩) 1 1 ∧ Holds E s3 (pt g2 (.cells #[.pointer (some ⟨p, 0, none⟩)] 165 (0, 0)) :: pt a (.cells (gC n R2) 121 (0, 0)) :: kPS.Osl (R2 k) X :: (nwP n W3 (k * n + t + 1) ++ L)) w,
             fun w x => ∃ v', x 10 = v' ∧ Holds E s3 (pt a (.cells (gC n R2) 121 (0, 0)) :: kPS.Osl v' (X ++ [p]) :: (nwP n W3 (k * n + t + 1) ++ L)) w,
             fun w x => ∃ A' cap', Holds E s3 (pt a (.cells (gC n (upF R2 k (.slice A' (X ++ [p]).length cap'))) 121 (0, 0)) :: kPS.Osl (.slice A' (X ++ [p]).length cap') (X ++ [p]) :: (nwP n W3 (k * n + t + 1) ++ L)) w]
            mixed (by simp) rfl (by kernel_rfl) (by kernel_rfl) (by kernel_rfl) (by simp) rfl H (by simp only [List.take_succ_cons, List.take_zero]; exact rfl) (by simp only [List.drop_succ_cons, List.drop_zero]; exact rfl)
            (fun x => by simp only [ov, Act.put, List.setIfInBounds_toArray, List.set_cons_succ, List.set_cons_zero, Nat.zero_add, Nat.reduceAdd]; exact rfl) ?_ ?_ ?_ ?_
          · refine ⟨?_, ?_, ?_, ?_, ?_, ?_, trivial⟩
            · intro w x hS; exact ⟨_, _, Sub.refl _, hS⟩
            · intro w x hS; obtain ⟨e7, H⟩ := hS; exact ⟨_, _, Sub.refl _, H⟩
            · intro w x hS; obtain ⟨g2, e9, H⟩ := hS; exact ⟨_, _, Sub.refl _, H⟩
            · intro w x hS; obtain ⟨g2, e7, e9, H⟩ := hS; exact ⟨_, _, Sub.refl _, H⟩
            · intro w x hS; obtain ⟨v', e10, H⟩ := hS; exact ⟨_, _, Sub.refl _, H⟩
            · intro w x hS; obtain ⟨A', cap', H⟩ := hS; exact ⟨_, _, Sub.refl _, H⟩
          · refine ⟨?_, ?_, ?_, ?_, ?_, ?_, ?_, ?_, ?_, ?_, ?_, ?_, ?_, ?_, ?_, trivial⟩
            · refine .inr ?_; intro s' R w' x Φ hs H hx hΦ; refine wantG rfl ?_; refine O_mv rfl rfl ?_; exact hΦ
            · refine .inr ?_; intro s' R w' x Φ hs H hx hΦ; refine wantG rfl ?_; refine O_mv rfl rfl ?_; exact hΦ
            · refine .inr ?_; intro s' R w' x Φ hs H hx hΦ; refine wantG rfl ?_; refine O_mv rfl rfl ?_; exact hΦ
            · refine .inr ?_; intro s' R w' x Φ hs H hx hΦ; refine wantG rfl ?_; refine O_mv rfl rfl ?_; exact hΦ
            · refine .inr ?_; intro s' R w' x Φ hs H hx hΦ; have e2 : x 2 = .pointer (some ⟨a, 0, none⟩) := hx 2 (by decide) (by decide); simp only [e2]; refine wantG rfl ?_; refine O_nil rfl rfl ?_; exact hΦ
            · refine .inr ?_; intro s' R w' x Φ hs H hx hΦ; have e4 : x 4 = .pointer (some ⟨a, 0, none⟩) := hx 4 (by decide) (by decide); simp only [e4]; refine wantG rfl ?_; refine O_fld rfl Tryd.underlying121 rfl (Tryd.sizeOf119 _) rfl ?_; exact hΦ
            · refine .inr ?_; intro s' R w' x Φ hs H hx hΦ; have e5 : x 5 = .pointer (some ⟨a, 1, none⟩) := hx 5 (by decide) (by decide); have e3 : x 3 = .int .i64 k := hx 3 (by decide) (by decide); simp only [e5, e3]; refine wantG rfl ?_; go_simp; exact hΦ
            · exact .inl (by decide)
            · refine .inr ?_; intro s' R w' x Φ hs H hx hΦ; refine wantG rfl ?_; refine O_mv rfl rfl ?_; exact hΦ
            · exact .inl (by decide)
            · exact .inl (by decide)
            · refine .inr ?_; intro s' R w' x Φ hs H hx hΦ; have e0 : x 0 = .pointer (some ⟨a, 0, none⟩) := hx 0 (by decide) (by decide); simp only [e0]; refine wantG rfl ?_; refine O_nil rfl rfl ?_; exact hΦ
            · refine .inr ?_; intro s' R w' x Φ hs H hx hΦ; have e11 : x 11 = .pointer (some ⟨a, 0, none⟩) := hx 11 (by decide) (by decide); simp only [e11]; refine wantG rfl ?_; refine O_fld rfl Tryd.underlying121 rfl (Tryd.sizeOf119 _) rfl ?_; exact hΦ
            · refine .inr ?_; intro s' R w' x Φ hs H hx hΦ; have e12 : x 12 = .pointer (some ⟨a, 1, none⟩) := hx 12 (by decide) (by decide); have e1 : x 1 = .int .i64 k := hx 1 (by decide) (by decide); simp only [e12, e1]; refine wantG rfl ?_; go_simp; exact hΦ
            · exact .inl (by decide)
          · refine ⟨?_, ?_, ?_, ?_, ?_, ?_, trivial⟩
            · intro c o S0 S1 hc ho h0 h1; obtain rfl := Option.some.inj hc; obtain rfl := Option.some.inj ho; obtain rfl := Option.some.inj h0; obtain rfl := Option.some.inj h1; intro w' x Φ hS hx hΦ
              have H : Holds E s3 _ w' := hS
              have e6 : x 6 = .pointer (some ⟨a, 1 + k, none⟩) := hx 6 (by decide) (by decide); simp only [e6]; refine wantG rfl ?_; refine L_1 0 _ _ rfl (Tryd.isAgg118 _) rfl H rfl hgk ?_
              exact hΦ _ _ ⟨updV_same, H⟩
            · intro c o S0 S1 hc ho h0 h1; obtain rfl := Option.some.inj hc; obtain rfl := Option.some.inj ho; obtain rfl := Option.some.inj h0; obtain rfl := Option.some.inj h1; intro w' x Φ hS hx hΦ
              have H : Holds E s3 _ w' := hS
              have e8 : x 8 = .pointer (some ⟨p, 0, none⟩) := hx 8 (by decide) (by decide); simp only [e8]; refine wantG rfl ?_; refine SL_1 (v := .pointer (some ⟨p, 0, none⟩)) rfl rfl Tryd.underlying118 Tryd.sizeOf165 Tryd.zeroValue165 rfl rfl (by decide) (by decide) H ?_
              clear H; intro g2 w2 H; exact hΦ _ _ ⟨g2, updV_same, H⟩
            · intro c o S0 S1 hc ho h0 h1; obtain rfl := Option.some.inj hc; obtain rfl := Option.some.inj ho; obtain rfl := Option.some.inj h0; obtain rfl := Option.some.inj h1; intro w' x Φ hS hx hΦ
              obtain ⟨e7, H⟩ := hS
              have e8 : x 8 = .pointer (some ⟨p, 0, none⟩) := hx 8 (by decide) (by decide); simp only [e8]; refine wantG rfl ?_; refine SL_1 (v := .pointer (some ⟨p, 0, none⟩)) rfl rfl Tryd.underlying118 Tryd.sizeOf165 Tryd.zeroValue165 rfl rfl (by decide) (by decide) H ?_
              clear H; intro g2 w2 H; exact hΦ _ _ ⟨g2, (updV_ne (by decide)).trans e7, updV_same, H⟩
            · intro c o S0 S1 hc ho h0 h1; obtain rfl := Option.some.inj hc; obtain rfl := Option.some.inj ho; obtain rfl := Option.some.inj h0; obtain rfl := Option.some.inj h1; intro w' x Φ hS hx hΦ
              obtain ⟨g2, e9, H⟩ := hS
              have e6 : x 6 = .pointer (some ⟨a, 1 + k, none⟩) := hx 6 (by decide) (by decide); simp only [e6]; refine wantG rfl ?_; refine L_1 1 _ _ rfl (Tryd.isAgg118 _) rfl H rfl hgk ?_
              exact hΦ _ _ ⟨g2, updV_same, (updV_ne (by decide)).trans e9, H⟩
            · intro c o S0 S1 hc ho h0 h1; obtain rfl := Option.some.inj hc; obtain rfl := Option.some.inj ho; obtain rfl := Option.some.inj h0; obtain rfl := Option.some.inj h1; intro w' x Φ hS hx hΦ
              obtain ⟨g2, e7, e9, H⟩ := hS
              simp only [e7, e9]; refine wantG rfl ?_; 
              replace H := ((H.swap2.mkEmp.map (A' := kPS.M p [.pointer (some ⟨p, 0, none⟩)]) fun _ h => ⟨⟨rfl, trivial⟩, h⟩).rot3)
              refine G_append1 kPS_at _ _ rfl H rfl rfl (by show (X.length + 1) * 8 ≤ _; omega) ?_
              clear H; intro v5 w5 H; exact hΦ _ _ ⟨v5, updV_same, H.swap⟩
            · intro c o S0 S1 hc ho h0 h1; obtain rfl := Option.some.inj hc; obtain rfl := Option.some.inj ho; obtain rfl := Option.some.inj h0; obtain rfl := Option.some.inj h1; intro w' x Φ hS hx hΦ
              obtain ⟨v', e10, H⟩ := hS
              have e13 : x 13 = .pointer (some ⟨a, 1 + k, none⟩) := hx 13 (by decide) (by decide); obtain ⟨A', cap', rfl, -, -, -⟩ := H.swap.len; simp only [e13, e10]; refine wantG rfl ?_; 
              have hks : 1 + k < (gC n R2).size := by show 1 + k < 6; omega
              refine G_set1i 0 (v := Value.slice _ _ _) _ _ _ rfl (Tryd.sizeOf118 _) rfl rfl rfl H rfl hks ?_
              clear H; intro w6 H; simp only [List.set_cons_zero] at H; rw [gC_set _ hlt] at H; exact hΦ _ _ ⟨A', cap', H⟩
          · clear H
            intro w' x hS hx
            obtain ⟨A', cap', H⟩ := hS
            have e0 : x 0 = .pointer (some ⟨a, 0, none⟩) := hx 0 (by decide) (by decide); 
            have e1 : x 1 = .int .i64 k := hx 1 (by decide) (by decide); 
            have e2 : x 2 = .pointer (some ⟨a, 0, none⟩) := hx 2 (by decide) (by decide); 
            have e3 : x 3 = .int .i64 k := hx 3 (by decide) (by decide); 
            have e4 : x 4 = .pointer (some ⟨a, 0, none⟩) := hx 4 (by decide) (by decide); 
            have e5 : x 5 = .pointer (some ⟨a, 1, none⟩) := hx 5 (by decide) (by decide); 
            have e6 : x 6 = .pointer (some ⟨a, 1 + k, none⟩) := hx 6 (by decide) (by decide); 
            have e8 : x 8 = .pointer (some ⟨p, 0, none⟩) := hx 8 (by decide) (by decide); 
            have e11 : x 11 = .pointer (some ⟨a, 0, none⟩) := hx 11 (by decide) (by decide); 
            have e12 : x 12 = .pointer (some ⟨a, 1, none⟩) := hx 12 (by decide) (by decide); 
            have e13 : x 13 = .pointer (some ⟨a, 1 + k, none⟩) := hx 13 (by decide) (by decide); 
            simp only [e0, e1, e2, e3, e4, e5, e6, e8, e11, e12, e13]
            clear hx e0 e1 e2 e3 e4 e5 e6 e8 e11 e12 e13
            generalize x 7 = y7
            generalize x 9 = y9
            generalize x 10 = y10
            clear x
            go_wp2
            refine ⟨⟨t + 1, s3, upF R2 k (.slice A' (X ++ [p]).length cap'), W3, X ++ [p], by omega, by go_num, hs2.trans hs3, by simp [hX], Lib.hid fun j hj => by rw [upF_ne _ _ (by omega)]; exact hR2.out j hj, Lib.hid fun j hj => by rw [upF_ne _ _ (by omega)]; exact hN.out j (by omega), hF2, by rw [upF_at]; exact H⟩, ?_⟩
            simp [intOf]; omega
        · obtain rfl : t = n := by omega
          go_wp2
          obtain ⟨s3, hs3, H, hSl⟩ := Kin.Osl.fr H.swap
          refine ⟨⟨k + 1, s3, R2, W2, by omega, rfl, hs2.trans hs3, Lib.hid fun j hj => ?_, Lib.hid fun j hj => hN.out j (by omega), by rw [Nat.succ_mul]; exact H⟩, by simp only [intOf]; omega⟩
          by_cases e : j = k
          · subst e; exact ⟨X, hX, hSl, fun a p hp => (hF.out a p hp).mono hs3⟩
          · exact (hR.out j (by omega)).mono hs3
    · obtain rfl : k = 4 := by omega
      go_wp2
      obtain ⟨s2, hs2, hg, H⟩ := H.freeze
      exact ret2 rfl (rv_tmp rfl) (rv_tmp rfl) rfl ⟨_, _, _, rfl, hs1.trans hs2, GrS_of hg fun i hi => (hR.out i hi).mono hs2, H⟩
end Go.Proofs.YtemdmpgekegfhaaDoor
end

section
namespace Go.Proofs.YtemdmpgekegfhaaDoor
open Go.RowKit
set_option linter.all false
set_option maxRecDepth 10000

/-- What Add answers. -/
def addE (n : Nat) (fr to of : Int) : Int := if 0 ≤ fr ∧ fr < n ∧ 0 ≤ to ∧ to < n then (if of < 1 ∨ of > 15 ∨ fr = to then 1 else 0) else 60
def addK (n : Nat) (F : Nat → Nat) (u v : Nat) (of : Int) : Nat → Nat → Nat
  | 0 => F
  | i + 1 => if lb of i = true then upF (addK n F u v of i) (i * n + u) (addK n F u v of i (i * n + u) ||| 2 ^ v) else addK n F u v of i
def addF (n : Nat) (F : Nat → Nat) (fr to of : Int) : Nat → Nat := if addE n fr to of = 0 then addK n F fr.toNat to.toNat of 4 else F
theorem grP_set {n v i : Nat} {F W : Nat → Nat} {L : List HP} (h : i < 4 * n) : (grP n F W ++ L).set i (wordP n (F i ||| 2 ^ v) (W i)) = grP n (upF F i (F i ||| 2 ^ v)) W ++ L := by
  rw [fam_set _ h]
  congr 2
  funext j
  unfold upF
  split
  · rename_i e; rw [e]
  · rfl
theorem has_e {w : World} {a n : Nat} (c0 : w.cell? ⟨a, 0, none⟩ = some (.int .i64 n)) (i : Int) : Calls Tryd.prog 109 #[.pointer (some ⟨a, 0, none⟩), .int .i64 i] w fun e w' => ∃ b, e = .returned (.bool b) ∧ w' = w ∧ (b = true ↔ 0 ≤ i ∧ i < n) :=
  (has_c c0 i).mono fun e w' ⟨he, hw⟩ => ⟨_, he, hw, by simp⟩
set_option maxHeartbeats 1000000 in
theorem gadd_c {E : World} {s : SH} {L : List HP} {w : World} {a n : Nat} {F W : Nat → Nat} (hn : n ≤ 300) (fr to of : Int) (hG : GrS s a n W) (H : Holds E s (grP n F W ++ L) w) :
    Calls Tryd.prog 61 #[.pointer (some ⟨a, 0, none⟩), .int .i64 fr, .int .i64 to, .int .i64 of] w fun e w' => e = .returned (.int .i64 (addE n fr to of)) ∧ Holds E s (grP n (addF n F fr to of) W ++ L) w' := by
  obtain ⟨R0, R1, R2, R3, hg, hr⟩ := hG
  have c0 := gr_c H hg 0
  have c5 := gr_c H hg 5
  simp only [List.getElem?_toArray, List.getElem?_cons_zero, List.getElem?_cons_succ] at c0 c5
  have hh := has_e c0
  by_cases h1 : 0 ≤ fr ∧ fr < n
  · by_cases h2 : 0 ≤ to ∧ to < n
    · obtain ⟨u, rfl⟩ : ∃ u : Nat, fr = u := ⟨fr.toNat, by omega⟩
      obtain ⟨v, rfl⟩ : ∃ v : Nat, to = v := ⟨to.toNat, by omega⟩
      have hu : u < n := by omega
      have hv : v < n := by omega
      by_cases h3 : of < 1 ∨ of > 15 ∨ (u : Int) = v
      · have e1 : addE n u v of = 1 := by unfold addE; rw [if_pos ⟨h1.1, h1.2, h2.1, h2.2⟩, if_pos h3]
        have e2 : addF n F u v of = F := by unfold addF; rw [e1, if_neg (by decide)]
        rw [e1, e2]
        have hbad : (decide (of < 1) || decide (15 < of) || ((u : Int) == (v : Int))) = true := by
          simp only [Bool.or_eq_true, decide_eq_true_eq, beq_iff_eq]; omega
        clear h3 e1 e2
        go_enter Tryd.func61, Tryd.ntmps61
        go_wp2_with (go_at_call 109; refine (hh _).mono ?_; rintro e w' ⟨b, rfl, rfl, hb⟩; have e0 : b = true := (by first | exact hb.2 h1 | exact hb.2 h2); subst e0; clear hb)
        all_goals (go_ret; exact ⟨rfl, H⟩)
      · have e1 : addE n u v of = 0 := by unfold addE; rw [if_pos ⟨h1.1, h1.2, h2.1, h2.2⟩, if_neg h3]
        have e2 : addF n F u v of = addK n F u v of 4 := by unfold addF; rw [e1, if_pos rfl]; simp
        rw [e1, e2]
        have h5 : ¬ of < 1 := fun h => h3 (.inl h)
        have h6 : ¬ 15 < of := fun h => h3 (.inr (.inl h))
        have h7 : u ≠ v := fun h => h3 (.inr (.inr (by omega)))
        have hgood : (decide (of < 1) || decide (15 < of) || ((u : Int) == (v : Int))) = false := by
          simp only [Bool.or_eq_false_iff, decide_eq_false_iff_not, beq_eq_false_iff_ne, ne_eq]; omega
        have h5b : decide (of < 1) = false := by simp; omega
        have h6b : decide (15 < of) = false := by simp; omega
        have h7b : ((u : Int) == (v : Int)) = false := by simp; omega
        clear h3 e1 e2 h5 h6 h7
        go_enter Tryd.func61, Tryd.ntmps61
        go_wp2_with (go_at_call 109; refine (hh _).mono ?_; rintro e w' ⟨b, rfl, rfl, hb⟩; have e0 : b = true := (by first | exact hb.2 h1 | exact hb.2 h2); subst e0; clear hb)
        have HR := Lib.hid hr
        clear hr hh c0 c5 h5b h6b h7b hgood
        have H : Holds E s (grP n (addK n F u v of 0) W ++ L) w' := H
        go_loopw [43] (fun i wr => ∃ k : Nat, k ≤ 4 ∧ i = .int .i64 k ∧ Holds E s (grP n (addK n F u v of k) W ++ L) wr) (fun i _ => 4 - (intOf i).toNat)
        case atStart => exact ⟨0, Nat.zero_le _, rfl, H⟩
        case round =>
          clear H
          obtain ⟨k, hk, rfl, H⟩ := hrel
          by_cases hlt : k < 4
          · have e1 := and_one (of / 2 ^ k)
            have hk64 : min k 64 = k := by omega
            have hwk : wrap64 ((k : Int) + 1) = (k : Int) + 1 := by unfold wrap64; omega
            obtain ⟨A, c, hA, hj⟩ := HR.out k hlt
            obtain ⟨blk, off, p2, rfl, hC, hS⟩ := hj u hu
            have hkn : k * n ≤ 3 * n := Nat.mul_le_mul_right n (by omega)
            have hin : k * n + u < 4 * n := by omega
            have cR := (gr_c H hg (1 + k)).trans (gr_row hlt hA)
            have cE : wr.cell? ⟨blk, off + u, none⟩ = some (.pointer (some ⟨p2, 0, none⟩)) := by
              have := Cells.cell H hC 0 _ rfl
              simpa [Addr.add] using this
            clear hj hA hkn
            by_cases hl : (of / 2 ^ k % 2 == 1) = true
            · have eK : upF (addK n F u v of k) (k * n + u) (addK n F u v of k (k * n + u) ||| 2 ^ v) = addK n F u v of (k + 1) := by
                show _ = if lb of k = true then _ else _
                rw [if_pos]; unfold lb; simpa using hl
              have EK := Lib.hid eK
              clear eK
              go_wp2_with (go_at_call 110; refine (badd_c hv hn H hS (fam_get hin)).mono ?_; clear H cR cE; rintro e w' ⟨rfl, H⟩; rw [grP_set hin, EK.out] at H)
              go_roundw
              case rel => exact ⟨k + 1, by omega, by go_num, H⟩
              case measure => simp [intOf]; omega
            · have eK : addK n F u v of k = addK n F u v of (k + 1) := by
                show _ = if lb of k = true then _ else _
                rw [if_neg]; unfold lb; simpa using hl
              rw [eK] at H
              go_wp2
              go_roundw
              case rel => exact ⟨k + 1, by omega, by go_num, H⟩
              case measure => simp [intOf]; omega
          · obtain rfl : k = 4 := by omega
            go_wp2
            go_ret
            exact ⟨rfl, H⟩
    · have e1 : addE n fr to of = 60 := by unfold addE; rw [if_neg (fun h => h2 ⟨h.2.2.1, h.2.2.2⟩)]
      have e2 : addF n F fr to of = F := by unfold addF; rw [e1, if_neg (by decide)]
      rw [e1, e2]
      go_enter Tryd.func61, Tryd.ntmps61
      go_wp2_with (go_at_call 109; refine (hh _).mono ?_; rintro e w' ⟨b, rfl, rfl, hb⟩; first | (have e0 : b = true := (by exact hb.2 h1); subst e0; clear hb) | (have e0 : b = false := (by cases b; rfl; exact absurd (hb.1 rfl) h2); subst e0; clear hb))
      go_ret
      exact ⟨rfl, H⟩
  · have e1 : addE n fr to of = 60 := by unfold addE; rw [if_neg (fun h => h1 ⟨h.1, h.2.1⟩)]
    have e2 : addF n F fr to of = F := by unfold addF; rw [e1, if_neg (by decide)]
    rw [e1, e2]
    go_enter Tryd.func61, Tryd.ntmps61
    go_wp2_with (go_at_call 109; refine (hh _).mono ?_; rintro e w' ⟨b, rfl, rfl, hb⟩; obtain rfl : b = false := (by cases b; rfl; exact absurd (hb.1 rfl) h1); clear hb)
    go_ret
    exact ⟨rfl, H⟩
end Go.Proofs.YtemdmpgekegfhaaDoor
end

section
namespace Go.Proofs.YtemdmpgekegfhaaDoor
open Go.RowKit
set_option linter.all false
set_option maxRecDepth 10000

def rowI (n : Nat) (f : Nat → Nat) : Array Value := ((List.range n).map fun j => Value.int .i64 (f j : Nat)).toArray
theorem rowI_size (n : Nat) (f : Nat → Nat) : (rowI n f).size = n := by simp [rowI]
theorem rowI_get {n : Nat} (f : Nat → Nat) {j : Nat} (h : j < n) : (rowI n f)[j]? = some (.int .i64 (f j : Nat)) := by simp [rowI, h]
theorem rowI_zero (n : Nat) : (List.replicate n (Value.int .i64 0)).toArray = rowI n fun _ => 0 := by
  unfold rowI
  congr 1
  apply List.ext_getElem <;> simp
theorem rowI_set {n : Nat} (f : Nat → Nat) (j v : Nat) : (rowI n f).setIfInBounds j (.int .i64 (v : Nat)) = rowI n (upF f j v) := by
  apply Array.ext
  · simp [rowI]
  · intro i h1 h2
    have h3 : i < (rowI n f).size := by simpa using h1
    rw [Array.getElem_setIfInBounds h3]
    simp only [rowI, List.getElem_toArray, List.getElem_map, List.getElem_range]
    by_cases e : j = i
    · subst e; rw [if_pos rfl, upF_at]
    · rw [if_neg e, upF_ne _ _ (fun h => e h.symm)]
/-- Rows as values: each is a block of n numbers. -/
def kSV (n : Nat) : Kin Nat := Kin.sc (fun b => .slice (some ⟨b, 0, none⟩) n n) (fun _ => True) 24 27 (fun _ => rfl)
theorem kSV_at {n : Nat} : (kSV n).At Tryd.prog 31 := ⟨Tryd.underlying31, by show 0 < 24; decide, Tryd.t27, _, info_of Tryd.type27, rfl, rfl, rfl, rfl⟩
def rowsB (n : Nat) (B : List Nat) : List HP := B.map fun b => pt b (.cells (rowI n fun _ => 0) 3 (0, 0))
abbrev xrP (n : Nat) (M : Nat → Nat → Nat) (bs : Nat → Nat) : List HP := fam (fun i => pt (bs i) (.cells (rowI n (M i)) 3 (0, 0))) n
/-- The document's graph at b: what stays of it; bs tells where its rows are. -/
def XrS (s : SH) (b n : Nat) (bs : Nat → Nat) : Prop := ∃ A c, s b = some (.cells #[.slice A n c] 33 (0, 0)) ∧ (kSV n).Sl s (.slice A n c) ((List.range n).map bs)
theorem XrS.mono {s t : SH} (hs : Sub s t) {b n : Nat} {bs : Nat → Nat} (h : XrS s b n bs) : XrS t b n bs := by
  obtain ⟨A, c, h1, h2⟩ := h
  exact ⟨A, c, hs _ _ h1, h2.mono hs⟩
theorem rowsB_fam {n : Nat} {B : List Nat} (h : B.length = n) : rowsB n B = xrP n (fun _ _ => 0) (fun i => B.getD i 0) := by
  unfold rowsB xrP fam
  apply List.ext_getElem
  · simp [h]
  · intro i h1 h2
    have h3 : i < B.length := by simpa using h1
    simp [List.getElem?_eq_getElem h3]
theorem range_getD {B : List Nat} {n : Nat} (h : B.length = n) : (List.range n).map (fun i => B.getD i 0) = B := by
  apply List.ext_getElem
  · simp [h]
  · intro i h1 h2
    simp [List.getElem?_eq_getElem h2]
theorem rowsB_snoc {E : World} {s : SH} {L : List HP} {w : World} {n r : Nat} {B : List Nat} {X Y : HP} (H : Holds E s (pt r (.cells (rowI n fun _ => 0) 3 (0, 0)) :: X :: Y :: (rowsB n B ++ L)) w) : Holds E s (X :: Y :: (rowsB n (B ++ [r]) ++ L)) w := by
  have e : rowsB n (B ++ [r]) ++ L = rowsB n B ++ (pt r (.cells (rowI n fun _ => 0) 3 (0, 0)) :: L) := by simp [rowsB]
  rw [e]
  exact H.perm ((List.Perm.swap _ _ _).trans (List.Perm.cons _ ((List.Perm.swap _ _ _).trans (List.Perm.cons _ List.perm_middle.symm))))
set_option maxHeartbeats 1000000 in
theorem xnew_c {E : World} {s : SH} {L : List HP} {w : World} {n : Nat} (hn : n ≤ 300) (H : Holds E s L w) :
    Calls Tryd.prog 60 #[.int .i64 n] w fun e w' => ∃ b s' bs, e = .returned (.tuple #[.pointer (some ⟨b, 0, none⟩), .int .i64 0]) ∧ Sub s s' ∧ XrS s' b n bs ∧ Holds E s' (xrP n (fun _ _ => 0) bs ++ L) w' := by
  have hk : ∀ i z, Tryd.prog.info? kI.e = some i → i.zero = some z → z.cells = #[Value.int .i64 0] := fun i z hi hz => by
    rw [show Tryd.prog.info? kI.e = some Tryd.t3 from info_of Tryd.type3] at hi; cases hi; cases hz; rfl
  go_enter Tryd.func60, Tryd.ntmps60
  go_wp2_with ((with_reducible refine OpG.list rfl ?_); (refine G_box 33 (v := .agg #[_]) _ rfl rfl H ?_; clear H; intro b w3 H))
  have H : Holds E s (pt b (.cells #[.slice none 0 0] 33 (0, 0)) :: (kSV n).Osl (.slice none 0 0) [] :: (rowsB n [] ++ L)) w3 := (Kin.Osl.nil H).swap
  go_loopw [14] (fun i wr => ∃ (t : Nat) (V : Value) (B : List Nat), t ≤ n ∧ i = .int .i64 t ∧ B.length = t ∧
    Holds E s (pt b (.cells #[V] 33 (0, 0)) :: (kSV n).Osl V B :: (rowsB n B ++ L)) wr) (fun i _ => n - (intOf i).toNat)
  case atStart => exact ⟨0, _, [], Nat.zero_le _, rfl, rfl, H⟩
  case round =>
    clear H
    obtain ⟨t, V, B, ht, rfl, hB, H⟩ := hrel
    by_cases hlt : t < n
    · go_wp2
      refine wp_draw_P (k := 12) (sz := 29) [4, 6, 7, 8, 11] [[false, false, false, false, false], [true, false, false, false, false], [false, true, false, false, false], [true, true, false, false, false], [false, true, true, false, false], [true, true, true, false, false], [true, true, true, true, false], [true, true, true, true, true]] [(0, 0, 1), (0, 1, 2), (1, 1, 3), (2, 0, 3), (2, 2, 4), (3, 2, 5), (4, 0, 5), (5, 3, 6), (6, 4, 7)] [.pointer (some ⟨b, 0, none⟩), .pointer (some ⟨b, 0, none⟩), .pointer (some ⟨b, 0, none⟩), .pointer (some ⟨b, 0, none⟩), undef, .int .i64 n, undef, undef, undef, .pointer (some ⟨b, 0, none⟩), .pointer (some ⟨b, 0, none⟩), undef] [] [fun w x => x 4 = V ∧ Holds E s (pt b (.cells #[V] 33 (0, 0)) :: (kSV n).Osl V B :: (rowsB n B ++ L)) w,
         fun w x => ∃ r, x 6 = .slice (some ⟨r, 0, none⟩) n n ∧ Holds E s (pt r (.cells (rowI n fun _ => 0) 3 (0, 0)) :: pt b (.cells #[V] 33 (0, 0)) :: (kSV n).Osl V B :: (rowsB n B ++ L)) w,
         fun w x => ∃ r, x 4 = V ∧ x 6 = .slice (some ⟨r, 0, none⟩) n n ∧ Holds E s (pt r (.cells (rowI n fun _ => 0) 3 (0, 0)) :: pt b (.cells #[V] 33 (0, 0)) :: (kSV n).Osl V B :: (rowsB n B ++ L)) w,
         fun w x => ∃ r g, x 7 = .slice (some ⟨g, 0, none⟩) 1 1 ∧ Holds E s (pt g (.cells #[.slice (some ⟨r, 0, none⟩) n n] 27 (0, 0)) :: pt r (.cells (rowI n fun _ => 0) 3 (0, 0)) :: pt b (.cells #[V] 33 (0, 0)) :: (kSV n).Osl V B :: (rowsB n B ++ L)) w,
         fun w x => ∃ r g, x 4 = V ∧ x 7 = .slice (some ⟨g, 0, none⟩) 1 1 ∧ Holds E s (pt g (.cells #[.slice (some ⟨r, 0, none⟩) n n] 27 (0, 0)) :: pt r (.cells (rowI n fun _ => 0) 3 (0, 0)) :: pt b (.cells #[V] 33 (0, 0)) :: (kSV n).Osl V B :: (rowsB n B ++ L)) w,
         fun w x => ∃ r v', x 8 = v' ∧ Holds E s (pt r (.cells (rowI n fun _ => 0) 3 (0, 0)) :: pt b (.cells #[V] 33 (0, 0)) :: (kSV n).Osl v' (B ++ [r]) :: (rowsB n B ++ L)) w,
         fun w x => ∃ r A' cap', Holds E s (pt r (.cells (rowI n fun _ => 0) 3 (0, 0)) :: pt b (.cells #[.slice A' (B ++ [r]).length cap'] 33 (0, 0)) :: (kSV n).Osl (.slice A' (B ++ [r]).length cap') (B ++ [r]) :: (rowsB n B ++ L)) w]
        mixed (by simp) rfl (by kernel_rfl) (by kernel_rfl) (by kernel_rfl) (by simp) rfl H (by simp only [List.take_succ_cons, List.take_zero]; exact rfl) (by simp only [List.drop_succ_cons, List.drop_zero]; exact rfl)
        (fun x => by simp only [ov, Act.put, List.setIfInBounds_toArray, List.set_cons_succ, List.set_cons_zero, Nat.zero_add, Nat.reduceAdd]; exact rfl) ?_ ?_ ?_ ?_
      · refine ⟨?_, ?_, ?_, ?_, ?_, ?_, ?_, ?_, trivial⟩
        · intro w x hS; have H : Holds E s _ w := hS; exact ⟨_, _, Sub.refl _, H⟩
        · intro w x hS; obtain ⟨e4, H⟩ := hS; exact ⟨_, _, Sub.refl _, H⟩
        · intro w x hS; obtain ⟨r, e6, H⟩ := hS; exact ⟨_, _, Sub.refl _, H⟩
        · intro w x hS; obtain ⟨r, e4, e6, H⟩ := hS; exact ⟨_, _, Sub.refl _, H⟩
        · intro w x hS; obtain ⟨r, g, e7, H⟩ := hS; exact ⟨_, _, Sub.refl _, H⟩
        · intro w x hS; obtain ⟨r, g, e4, e7, H⟩ := hS; exact ⟨_, _, Sub.refl _, H⟩
        · intro w x hS; obtain ⟨r, v', e8, H⟩ := hS; exact ⟨_, _, Sub.refl _, H⟩
        · intro w x hS; obtain ⟨r, A', cap', H⟩ := hS; exact ⟨_, _, Sub.refl _, H⟩
      · refine ⟨?_, ?_, ?_, ?_, ?_, ?_, ?_, ?_, ?_, ?_, ?_, ?_, trivial⟩
        · refine .inr ?_; intro s' R w' x Φ hs H hx hΦ; refine wantG rfl ?_; refine O_mv rfl rfl ?_; exact hΦ
        · refine .inr ?_; intro s' R w' x Φ hs H hx hΦ; refine wantG rfl ?_; refine O_mv rfl rfl ?_; exact hΦ
        · refine .inr ?_; intro s' R w' x Φ hs H hx hΦ; have e1 : x 1 = .pointer (some ⟨b, 0, none⟩) := hx 1 (by decide) (by decide); simp only [e1]; refine wantG rfl ?_; refine O_nil rfl rfl ?_; exact hΦ
        · refine .inr ?_; intro s' R w' x Φ hs H hx hΦ; have e2 : x 2 = .pointer (some ⟨b, 0, none⟩) := hx 2 (by decide) (by decide); simp only [e2]; refine wantG rfl ?_; refine O_fld rfl Tryd.underlying33 rfl (Tryd.sizeOf31 _) rfl ?_; exact hΦ
        · exact .inl (by decide)
        · refine .inr ?_; intro s' R w' x Φ hs H hx hΦ; refine wantG rfl ?_; refine O_mv rfl rfl ?_; exact hΦ
        · exact .inl (by decide)
        · exact .inl (by decide)
        · exact .inl (by decide)
        · refine .inr ?_; intro s' R w' x Φ hs H hx hΦ; have e0 : x 0 = .pointer (some ⟨b, 0, none⟩) := hx 0 (by decide) (by decide); simp only [e0]; refine wantG rfl ?_; refine O_nil rfl rfl ?_; exact hΦ
        · refine .inr ?_; intro s' R w' x Φ hs H hx hΦ; have e9 : x 9 = .pointer (some ⟨b, 0, none⟩) := hx 9 (by decide) (by decide); simp only [e9]; refine wantG rfl ?_; refine O_fld rfl Tryd.underlying33 rfl (Tryd.sizeOf31 _) rfl ?_; exact hΦ
        · exact .inl (by decide)
      · refine ⟨?_, ?_, ?_, ?_, ?_, ?_, ?_, ?_, ?_, trivial⟩
        · intro c o S0 S1 hc ho h0 h1; obtain rfl := Option.some.inj hc; obtain rfl := Option.some.inj ho; obtain rfl := Option.some.inj h0; obtain rfl := Option.some.inj h1; intro w' x Φ hS hx hΦ
          have H : Holds E s _ w' := hS
          have e3 : x 3 = .pointer (some ⟨b, 0, none⟩) := hx 3 (by decide) (by decide); simp only [e3]; refine wantG rfl ?_; refine L_1 0 _ _ rfl (Tryd.isAgg31 _) rfl H rfl rfl ?_
          exact hΦ _ _ ⟨updV_same, H⟩
        · intro c o S0 S1 hc ho h0 h1; obtain rfl := Option.some.inj hc; obtain rfl := Option.some.inj ho; obtain rfl := Option.some.inj h0; obtain rfl := Option.some.inj h1; intro w' x Φ hS hx hΦ
          have H : Holds E s _ w' := hS
          have e5 : x 5 = .int .i64 n := hx 5 (by decide) (by decide); simp only [e5]; refine wantG rfl ?_; refine G_make1 kI_at _ _ rfl n rfl rfl (.int .i64 0) rfl hk (by show n * 8 ≤ _; omega) H ?_; clear H; intro r w2 H; rw [rowI_zero] at H
          exact hΦ _ _ ⟨r, updV_same, H⟩
        · intro c o S0 S1 hc ho h0 h1; obtain rfl := Option.some.inj hc; obtain rfl := Option.some.inj ho; obtain rfl := Option.some.inj h0; obtain rfl := Option.some.inj h1; intro w' x Φ hS hx hΦ
          obtain ⟨e4, H⟩ := hS
          have e5 : x 5 = .int .i64 n := hx 5 (by decide) (by decide); simp only [e5]; refine wantG rfl ?_; refine G_make1 kI_at _ _ rfl n rfl rfl (.int .i64 0) rfl hk (by show n * 8 ≤ _; omega) H ?_; clear H; intro r w2 H; rw [rowI_zero] at H
          exact hΦ _ _ ⟨r, (updV_ne (by decide)).trans e4, updV_same, H⟩
        · intro c o S0 S1 hc ho h0 h1; obtain rfl := Option.some.inj hc; obtain rfl := Option.some.inj ho; obtain rfl := Option.some.inj h0; obtain rfl := Option.some.inj h1; intro w' x Φ hS hx hΦ
          obtain ⟨r, e6, H⟩ := hS
          have e3 : x 3 = .pointer (some ⟨b, 0, none⟩) := hx 3 (by decide) (by decide); simp only [e3]; refine wantG rfl ?_; refine L_1 1 _ _ rfl (Tryd.isAgg31 _) rfl H rfl rfl ?_
          exact hΦ _ _ ⟨r, updV_same, (updV_ne (by decide)).trans e6, H⟩
        · intro c o S0 S1 hc ho h0 h1; obtain rfl := Option.some.inj hc; obtain rfl := Option.some.inj ho; obtain rfl := Option.some.inj h0; obtain rfl := Option.some.inj h1; intro w' x Φ hS hx hΦ
          obtain ⟨r, e6, H⟩ := hS
          simp only [e6]; refine wantG rfl ?_; refine SL_1 (v := .slice (some ⟨r, 0, none⟩) n n) rfl rfl Tryd.underlying31 Tryd.sizeOf27 Tryd.zeroValue27 rfl rfl (by decide) (by decide) H ?_; clear H; intro g w2 H
          exact hΦ _ _ ⟨r, g, updV_same, H⟩
        · intro c o S0 S1 hc ho h0 h1; obtain rfl := Option.some.inj hc; obtain rfl := Option.some.inj ho; obtain rfl := Option.some.inj h0; obtain rfl := Option.some.inj h1; intro w' x Φ hS hx hΦ
          obtain ⟨r, e4, e6, H⟩ := hS
          simp only [e6]; refine wantG rfl ?_; refine SL_1 (v := .slice (some ⟨r, 0, none⟩) n n) rfl rfl Tryd.underlying31 Tryd.sizeOf27 Tryd.zeroValue27 rfl rfl (by decide) (by decide) H ?_; clear H; intro g w2 H
          exact hΦ _ _ ⟨r, g, (updV_ne (by decide)).trans e4, updV_same, H⟩
        · intro c o S0 S1 hc ho h0 h1; obtain rfl := Option.some.inj hc; obtain rfl := Option.some.inj ho; obtain rfl := Option.some.inj h0; obtain rfl := Option.some.inj h1; intro w' x Φ hS hx hΦ
          obtain ⟨r, g, e7, H⟩ := hS
          have e3 : x 3 = .pointer (some ⟨b, 0, none⟩) := hx 3 (by decide) (by decide); simp only [e3]; refine wantG rfl ?_; refine L_1 2 _ _ rfl (Tryd.isAgg31 _) rfl H rfl rfl ?_
          exact hΦ _ _ ⟨r, g, updV_same, (updV_ne (by decide)).trans e7, H⟩
        · intro c o S0 S1 hc ho h0 h1; obtain rfl := Option.some.inj hc; obtain rfl := Option.some.inj ho; obtain rfl := Option.some.inj h0; obtain rfl := Option.some.inj h1; intro w' x Φ hS hx hΦ
          obtain ⟨r, g, e4, e7, H⟩ := hS
          simp only [e4, e7]; refine wantG rfl ?_; 
          replace H := H.perm (List.Perm.cons _ ((List.Perm.swap _ _ _).trans (List.Perm.cons _ (List.Perm.swap _ _ _))))
          replace H := H.swap2
          replace H := ((H.mkEmp.map (A' := (kSV n).M r [.slice (some ⟨r, 0, none⟩) n n]) fun _ h => ⟨⟨rfl, trivial⟩, h⟩).rot3)
          refine G_append1 kSV_at _ _ rfl H rfl rfl (by show (B.length + 1) * 24 ≤ _; omega) ?_
          clear H; intro v5 w5 H; exact hΦ _ _ ⟨r, v5, updV_same, (H.rot3).swap⟩
        · intro c o S0 S1 hc ho h0 h1; obtain rfl := Option.some.inj hc; obtain rfl := Option.some.inj ho; obtain rfl := Option.some.inj h0; obtain rfl := Option.some.inj h1; intro w' x Φ hS hx hΦ
          obtain ⟨r, v', e8, H⟩ := hS
          have e10 : x 10 = .pointer (some ⟨b, 0, none⟩) := hx 10 (by decide) (by decide); obtain ⟨A', cap', rfl, -, -, -⟩ := (H.rot3').len; simp only [e10, e8]; refine wantG rfl ?_; 
          refine G_set1i 1 (v := Value.slice _ _ _) _ _ _ rfl (Tryd.sizeOf31 _) rfl rfl rfl H rfl (by show 0 < 1; decide) ?_
          clear H; intro w6 H; simp only [List.set_cons_zero, List.set_cons_succ] at H; exact hΦ _ _ ⟨r, A', cap', H⟩
      · clear H
        intro w' x hS hx
        obtain ⟨r, A', cap', H⟩ := hS
        have e0 : x 0 = .pointer (some ⟨b, 0, none⟩) := hx 0 (by decide) (by decide); 
        have e1 : x 1 = .pointer (some ⟨b, 0, none⟩) := hx 1 (by decide) (by decide); 
        have e2 : x 2 = .pointer (some ⟨b, 0, none⟩) := hx 2 (by decide) (by decide); 
        have e3 : x 3 = .pointer (some ⟨b, 0, none⟩) := hx 3 (by decide) (by decide); 
        have e5 : x 5 = .int .i64 n := hx 5 (by decide) (by decide); 
        have e9 : x 9 = .pointer (some ⟨b, 0, none⟩) := hx 9 (by decide) (by decide); 
        have e10 : x 10 = .pointer (some ⟨b, 0, none⟩) := hx 10 (by decide) (by decide); 
        simp only [e0, e1, e2, e3, e5, e9, e10]
        clear hx e0 e1 e2 e3 e5 e9 e10
        generalize x 4 = y4
        generalize x 6 = y6
        generalize x 7 = y7
        generalize x 8 = y8
        clear x
        go_wp2
        exact ⟨⟨t + 1, _, B ++ [r], by omega, rfl, by simp [hB], rowsB_snoc H⟩, by simp only [intOf]; omega⟩
    · obtain rfl : t = n := by omega
      go_wp2
      obtain ⟨A', cap', rfl, -, -, -⟩ := H.swap.len
      obtain ⟨s1, hs1, hb, H⟩ := H.freeze
      obtain ⟨s2, hs2, H, hSl⟩ := Kin.Osl.fr H
      rw [rowsB_fam hB] at H
      refine ret2 rfl (rv_tmp rfl) (rv_tmp rfl) rfl ⟨b, s2, _, rfl, hs1.trans hs2, ⟨A', cap', ?_, ?_⟩, H⟩
      · rw [hB] at hb; exact hs2 _ _ hb
      · rw [range_getD hB]; rw [hB] at hSl; exact hSl
end Go.Proofs.YtemdmpgekegfhaaDoor
end

section
namespace Go.Proofs.YtemdmpgekegfhaaDoor
open Go.RowKit
set_option linter.all false
set_option maxRecDepth 10000

theorem there_c {w : World} {b n c : Nat} {A : Option Addr} (c0 : w.cell? ⟨b, 0, none⟩ = some (.slice A n c)) (i : Int) : Calls Tryd.prog 111 #[.pointer (some ⟨b, 0, none⟩), .int .i64 i] w fun e w' => e = .returned (.bool (decide (0 ≤ i) && decide (i < n))) ∧ w' = w := by
  by_cases h : 0 ≤ i
  · go_enter Tryd.func111, Tryd.ntmps111
    go_wp2
    refine ret1 rfl (rv_tmp rfl) rfl ⟨?_, rfl⟩
    simp [h]
  · go_enter Tryd.func111, Tryd.ntmps111
    go_wp2
    refine ret1 rfl (rv_tmp rfl) rfl ⟨?_, rfl⟩
    simp [h]; omega
theorem there_e {E : World} {s : SH} {L : List HP} {w : World} {b n : Nat} {bs : Nat → Nat} (H : Holds E s L w) (hX : XrS s b n bs) (i : Int) : Calls Tryd.prog 111 #[.pointer (some ⟨b, 0, none⟩), .int .i64 i] w fun e w' => ∃ q, e = .returned (.bool q) ∧ w' = w ∧ (q = true ↔ 0 ≤ i ∧ i < n) := by
  obtain ⟨A, c, hb, -⟩ := hX
  have c0 := gr_c H hb 0
  simp only [List.getElem?_toArray, List.getElem?_cons_zero] at c0
  exact (there_c c0 i).mono fun e w' ⟨he, hw⟩ => ⟨_, he, hw, by simp⟩
theorem or_i64 (x y : Nat) (hx : x < 16) (hy : y < 16) : bits .or .i64 (x : Int) (y : Int) = ((x ||| y : Nat) : Int) :=
  (bits_nat .i64 4 (by decide) (fun n h0 h1 => by rw [IntKind.wrap_i64]; rw [show (2 : Int) ^ 4 = 16 by decide] at h1; omega) x y (by omega) (by omega)).2
def addM (n : Nat) (M : Nat → Nat → Nat) (fr to of : Int) : Nat → Nat → Nat := if addE n fr to of = 0 then upF M fr.toNat (upF (M fr.toNat) to.toNat (M fr.toNat to.toNat ||| of.toNat)) else M
theorem xrP_set {n u v z : Nat} {M : Nat → Nat → Nat} {bs : Nat → Nat} {L : List HP} (h : u < n) : (xrP n M bs ++ L).set u (pt (bs u) (.cells ((rowI n (M u)).setIfInBounds v (.int .i64 (z : Nat))) 3 (0, 0))) = xrP n (upF M u (upF (M u) v z)) bs ++ L := by
  rw [fam_set _ h, rowI_set]
  congr 2
  funext j
  unfold upF
  split
  · rename_i e; rw [e]
  · rfl
theorem XrS.elem {s : SH} {b n : Nat} {bs : Nat → Nat} (h : XrS s b n bs) {u : Nat} (hu : u < n) : ∃ blk off c, s b = some (.cells #[.slice (some ⟨blk, off, none⟩) n c] 33 (0, 0)) ∧ Cells s ⟨blk, off + u, none⟩ [.slice (some ⟨bs u, 0, none⟩) n n] := by
  obtain ⟨A, c, hb, hS⟩ := h
  obtain ⟨blk, off, cs, rfl, hK, hC⟩ := hS.elem u (by simpa using hu)
  obtain ⟨rfl, -⟩ := hK
  refine ⟨blk, off, c, hb, ?_⟩
  have e2 : off + u * (kSV n).sz = off + u := by rw [show (kSV n).sz = 1 from rfl, Nat.mul_one]
  rw [e2] at hC
  simpa using hC
set_option maxHeartbeats 1000000 in
theorem xadd_c {E : World} {s : SH} {L : List HP} {w : World} {b n : Nat} {M : Nat → Nat → Nat} {bs : Nat → Nat} (hn : n ≤ 300) (fr to of : Int) (hX : XrS s b n bs) (hM : ∀ i j, M i j < 16) (H : Holds E s (xrP n M bs ++ L) w) :
    Calls Tryd.prog 62 #[.pointer (some ⟨b, 0, none⟩), .int .i64 fr, .int .i64 to, .int .i64 of] w fun e w' => e = .returned (.int .i64 (addE n fr to of)) ∧ Holds E s (xrP n (addM n M fr to of) bs ++ L) w' := by
  have hh := there_e H hX
  by_cases h1 : 0 ≤ fr ∧ fr < n
  · by_cases h2 : 0 ≤ to ∧ to < n
    · obtain ⟨u, rfl⟩ : ∃ u : Nat, fr = u := ⟨fr.toNat, by omega⟩
      obtain ⟨v, rfl⟩ : ∃ v : Nat, to = v := ⟨to.toNat, by omega⟩
      have hu : u < n := by omega
      have hv : v < n := by omega
      by_cases h3 : of < 1 ∨ of > 15 ∨ (u : Int) = v
      · have e1 : addE n u v of = 1 := by unfold addE; rw [if_pos ⟨h1.1, h1.2, h2.1, h2.2⟩, if_pos h3]
        have e2 : addM n M u v of = M := by unfold addM; rw [e1, if_neg (by decide)]
        rw [e1, e2]
        have hbad : (decide (of < 1) || decide (15 < of) || ((u : Int) == (v : Int))) = true := by
          simp only [Bool.or_eq_true, decide_eq_true_eq, beq_iff_eq]; omega
        clear h3 e1 e2 hM
        go_enter Tryd.func62, Tryd.ntmps62
        go_wp2_with (go_at_call 111; refine (hh _).mono ?_; rintro e w' ⟨b, rfl, rfl, hb⟩; have e0 : b = true := (by first | exact hb.2 h1 | exact hb.2 h2); subst e0; clear hb)
        all_goals (go_ret; exact ⟨rfl, H⟩)
      · obtain ⟨o, rfl⟩ : ∃ o : Nat, of = o := ⟨of.toNat, by omega⟩
        have ho : o < 16 := by omega
        have e1 : addE n u v o = 0 := by unfold addE; rw [if_pos ⟨h1.1, h1.2, h2.1, h2.2⟩, if_neg h3]
        have e2 : addM n M u v o = upF M u (upF (M u) v (M u v ||| o)) := by unfold addM; rw [e1, if_pos rfl]; simp
        rw [e1, e2]
        have h5b : decide ((o : Int) < 1) = false := by simp; omega
        have h6b : decide (15 < (o : Int)) = false := by simp; omega
        have h7b : ((u : Int) == (v : Int)) = false := by simp; omega
        obtain ⟨blk, off, c, hs, hC⟩ := hX.elem hu
        have c0 := gr_c H hs 0
        simp only [List.getElem?_toArray, List.getElem?_cons_zero] at c0
        have cE : w.cell? ⟨blk, off + u, none⟩ = some (.slice (some ⟨bs u, 0, none⟩) n n) := by
          have := Cells.cell H hC 0 _ rfl
          simpa [Addr.add] using this
        have cW : w.cell? ⟨bs u, v, none⟩ = some (.int .i64 (M u v : Nat)) := by
          have := (H.front u (fam_get hu)).at_pt
          simp only [World.cell?, this]
          exact rowI_get _ hv
        have eo := or_i64 (M u v) o (hM u v) ho
        have hvs : v < (rowI n (M u)).size := by rw [rowI_size]; exact hv
        clear h3 e1 e2 hM
        go_enter Tryd.func62, Tryd.ntmps62
        go_wp2_with (go_at_call 111; refine (hh _).mono ?_; rintro e w' ⟨b, rfl, rfl, hb⟩; have e0 : b = true := (by first | exact hb.2 h1 | exact hb.2 h2); subst e0; clear hb)
        go_still_tail 21, (by kernel_rfl)
        change wpList _ _ _ _ _ w'.drew
        replace H := H.drew
        generalize w'.drew = w2 at H ⊢
        clear c0 cE cW hh
        go_wp2_with ((with_reducible refine OpG.list rfl ?_); (refine G_set1i u (v := Value.int .i64 (M u v ||| o : Nat)) _ _ _ rfl (Tryd.sizeOf3 _) rfl rfl rfl H (fam_get hu) hvs ?_; clear H; intro w5 H; rw [xrP_set hu] at H))
        go_ret
        exact ⟨rfl, H⟩
    · have e1 : addE n fr to of = 60 := by unfold addE; rw [if_neg (fun h => h2 ⟨h.2.2.1, h.2.2.2⟩)]
      have e2 : addM n M fr to of = M := by unfold addM; rw [e1, if_neg (by decide)]
      rw [e1, e2]
      clear hM
      go_enter Tryd.func62, Tryd.ntmps62
      go_wp2_with (go_at_call 111; refine (hh _).mono ?_; rintro e w' ⟨b, rfl, rfl, hb⟩; first | (have e0 : b = true := (by exact hb.2 h1); subst e0; clear hb) | (have e0 : b = false := (by cases b; rfl; exact absurd (hb.1 rfl) h2); subst e0; clear hb))
      go_ret
      exact ⟨rfl, H⟩
  · have e1 : addE n fr to of = 60 := by unfold addE; rw [if_neg (fun h => h1 ⟨h.1, h.2.1⟩)]
    have e2 : addM n M fr to of = M := by unfold addM; rw [e1, if_neg (by decide)]
    rw [e1, e2]
    clear hM
    go_enter Tryd.func62, Tryd.ntmps62
    go_wp2_with (go_at_call 111; refine (hh _).mono ?_; rintro e w' ⟨b, rfl, rfl, hb⟩; have e0 : b = false := (by cases b; rfl; exact absurd (hb.1 rfl) h1); subst e0; clear hb)
    go_ret
    exact ⟨rfl, H⟩
end Go.Proofs.YtemdmpgekegfhaaDoor
end

section
namespace Go.Proofs.YtemdmpgekegfhaaDoor
open Go.RowKit Go.ChangeShapes Go.WideShapes Go.ChangeAt
set_option linter.all false
set_option maxRecDepth 10000

structure Ed where
  from_ : Int
  to : Int
  label : Int
  deriving Inhabited, DecidableEq
def kEd : Kin Ed := Kin.iso (Kin.pair kI (Kin.pair kI kI)) (fun x => (x.from_, x.to, x.label)) 24 37
theorem kEd_at : kEd.At Tryd.prog 22 := ⟨Tryd.underlying22, by decide, Tryd.t37, _, info_of Tryd.type37, rfl, rfl, rfl, rfl⟩
theorem kEd_op {s : SH} {x : Ed} {cs : List Value} (h : kEd.K s x cs) : cs = [.int .i64 x.from_, .int .i64 x.to, .int .i64 x.label] ∧ Kin.inI64 x.from_ ∧ Kin.inI64 x.to ∧ Kin.inI64 x.label := by
  obtain ⟨_, _, rfl, ⟨rfl, h0⟩, _, _, rfl, ⟨rfl, h1⟩, rfl, h2⟩ := h
  exact ⟨rfl, h0, h1, h2⟩
theorem kEd_mk' {s : SH} {x : Ed} (h0 : Kin.inI64 x.from_) (h1 : Kin.inI64 x.to) (h2 : Kin.inI64 x.label) : kEd.K s x [.int .i64 x.from_, .int .i64 x.to, .int .i64 x.label] := ⟨[_], [_, _], rfl, ⟨rfl, h0⟩, ⟨[_], [_], rfl, ⟨rfl, h1⟩, ⟨rfl, h2⟩⟩⟩
theorem kEd_zero {s0 : SH} : ∀ i z, Tryd.prog.info? (kEd.sh s0).e = some i → i.zero = some z → ∀ h, emp h → (kEd.sh s0).M (⟨0, 0, 0⟩ : Ed) z.cells.toList h := fun i z hi hz h e => by
  rw [show Tryd.prog.info? (kEd.sh s0).e = some Tryd.t37 from info_of Tryd.type37] at hi
  cases hi; cases hz
  exact ⟨kEd_mk' (x := (⟨0, 0, 0⟩ : Ed)) (by constructor <;> decide) (by constructor <;> decide) (by constructor <;> decide), e⟩
theorem kEd_el {s : SH} {A : Option Addr} {n cap : Nat} {xs : List Ed} (h : kEd.Sl s (.slice A n cap) xs) {i : Nat} {x : Ed} {r : List Ed} (hd : xs.drop i = x :: r) : ∃ b off , A = some ⟨b, off, none⟩ ∧ Cells s ⟨b, off + i * 3, none⟩ [.int .i64 x.from_, .int .i64 x.to, .int .i64 x.label] ∧ Kin.inI64 x.from_ ∧ Kin.inI64 x.to ∧ Kin.inI64 x.label := by
  have hk : i < xs.length := Classical.byContradiction fun hn => by rw [List.drop_of_length_le (by omega)] at hd; cases hd
  have hx : xs[i] = x := by rw [List.drop_eq_getElem_cons hk] at hd; exact (List.cons.inj hd).1
  obtain ⟨b, off, c, rfl, hK, hc⟩ := h.elem i hk
  rw [hx] at hK
  obtain ⟨rfl, h0, h1, h2⟩ := kEd_op hK
  exact ⟨b, off, rfl, hc, h0, h1, h2⟩
theorem kEd_el2 {s : SH} {b off n cap : Nat} {xs : List Ed} (h : kEd.Sl s (.slice (some ⟨b, off, none⟩) n cap) xs) {i : Nat} {x : Ed} {r : List Ed} (hd : xs.drop i = x :: r) : Cells s ⟨b, off + i * 3, none⟩ [.int .i64 x.from_, .int .i64 x.to, .int .i64 x.label] ∧ Kin.inI64 x.from_ ∧ Kin.inI64 x.to ∧ Kin.inI64 x.label := by
  obtain ⟨b', off', e, hc, h0, h1, h2⟩ := kEd_el h hd
  cases e
  exact ⟨hc, h0, h1, h2⟩
theorem kEd_opens : Opens Tryd.prog kEd 37 := by
  intro H enc W fuel cs x h hw
  obtain ⟨xs, n, rfl, rfl, hl, hlen, hf⟩ := DataW.trod_struct Tryd.underlying37 h
  have hl' : cs.length = 3 := hl.trans (by kernel_rfl)
  have hx' : xs.length = 3 := hlen
  match cs, hl', xs, hx' with
  | [c0, c1, c2], _, [x0, x1, x2], _ =>
    have f0 := hf 0 _ rfl
    have f1 := hf 1 _ rfl
    have f2 := hf 2 _ rfl
    have hw' : ∀ (j : Nat) (t : TypeId) (d : DataW H), ([3, 3, 3] : List TypeId)[j]? = some t → [x0.1, x1.1, x2.1][j]? = some d → ∀ n ∈ d.weights Tryd.prog t, n ≤ reachBytes := fun j t d ht hd q hq => by
      refine hw q ?_
      have := DataW.weights_mem_each ht hd q hq
      simp only [DataW.weights, Tryd.underlying37]
      exact this
    obtain ⟨y0, k0⟩ := opens_int (e := 3) Tryd.underlying3 H enc W n [c0] x0 f0 (hw' 0 _ _ rfl rfl)
    obtain ⟨y1, k1⟩ := opens_int (e := 3) Tryd.underlying3 H enc W n [c1] x1 f1 (hw' 1 _ _ rfl rfl)
    obtain ⟨y2, k2⟩ := opens_int (e := 3) Tryd.underlying3 H enc W n [c2] x2 f2 (hw' 2 _ _ rfl rfl)
    exact ⟨⟨y0, y1, y2⟩, [c0], [c1, c2], rfl, k0, [c1], [c2], rfl, k1, k2⟩
def kLD : Kin (List Ed) := Kin.slice kEd 22
theorem kLD_opens : Opens Tryd.prog kLD 22 := opens_slice Tryd.underlying22 (by kernel_rfl) (by kernel_rfl) kEd_opens
end Go.Proofs.YtemdmpgekegfhaaDoor
end

section
namespace Go.Proofs.YtemdmpgekegfhaaDoor
open Go.RowKit
set_option linter.all false
set_option maxRecDepth 10000

theorem idx_inj {n i j u v : Nat} (hu : u < n) (hv : v < n) (h : i * n + u = j * n + v) : i = j ∧ u = v := by
  have hn : 0 < n := by omega
  have e : ∀ i u : Nat, u < n → (i * n + u) / n = i := fun i u hu => by
    rw [Nat.mul_comm, Nat.mul_add_div hn, Nat.div_eq_of_lt hu, Nat.add_zero]
  have : i = j := by rw [← e i u hu, h, e j v hv]
  subst this
  exact ⟨rfl, by omega⟩
theorem lb_nat (o i : Nat) : lb (o : Int) i = o.testBit i := by
  unfold lb
  rw [Nat.testBit_eq_decide_div_mod_eq]
  have e : ((2 : Int) ^ i) = ((2 ^ i : Nat) : Int) := by simp
  rw [e]
  generalize 2 ^ i = q
  congr 1
  apply propext
  constructor
  · intro h; exact_mod_cast h
  · intro h; exact_mod_cast h
theorem addK_at {n : Nat} {F : Nat → Nat} {u v : Nat} {of : Int} (hu : u < n) : ∀ (j : Nat) {i x : Nat}, x < n → addK n F u v of j (i * n + x) = if i < j ∧ x = u ∧ lb of i = true then F (i * n + x) ||| 2 ^ v else F (i * n + x)
  | 0, i, x, hx => by simp [addK]
  | j + 1, i, x, hx => by
    unfold addK
    by_cases hl : lb of j = true
    · rw [if_pos hl]
      by_cases e : i * n + x = j * n + u
      · obtain ⟨rfl, rfl⟩ := idx_inj hx hu e
        rw [upF_at, addK_at hu i hx, if_neg (by omega), if_pos ⟨by omega, rfl, hl⟩]
      · rw [upF_ne _ _ e, addK_at hu j hx]
        by_cases h : i < j ∧ x = u ∧ lb of i = true
        · rw [if_pos h, if_pos ⟨by omega, h.2⟩]
        · rw [if_neg h, if_neg]
          rintro ⟨h1, h2, h3⟩
          rcases Nat.lt_or_ge i j with h4 | h4
          · exact h ⟨h4, h2, h3⟩
          · obtain rfl : i = j := by omega
            subst h2; exact e rfl
    · rw [if_neg hl, addK_at hu j hx]
      by_cases h : i < j ∧ x = u ∧ lb of i = true
      · rw [if_pos h, if_pos ⟨by omega, h.2⟩]
      · rw [if_neg h, if_neg]
        rintro ⟨h1, h2, h3⟩
        rcases Nat.lt_or_ge i j with h4 | h4
        · exact h ⟨h4, h2, h3⟩
        · obtain rfl : i = j := by omega
          exact hl h3
theorem addK_lt {n : Nat} {F : Nat → Nat} {u v : Nat} {of : Int} (hv : v < n) (hF : ∀ k, F k < 2 ^ n) : ∀ (j k : Nat), addK n F u v of j k < 2 ^ n
  | 0, k => hF k
  | j + 1, k => by
    unfold addK
    split
    · unfold upF
      split
      · exact Nat.or_lt_two_pow (addK_lt hv hF j _) (Nat.pow_lt_pow_right (by decide) hv)
      · exact addK_lt hv hF j k
    · exact addK_lt hv hF j k
/-- The rows of the program's graph and the labels of the document's tell the same edges. -/
structure Rel (n : Nat) (F : Nat → Nat) (M : Nat → Nat → Nat) : Prop where
  lt : ∀ k, F k < 2 ^ n
  lab : ∀ u v, M u v < 16
  bit : ∀ i u v, i < 4 → u < n → v < n → (F (i * n + u)).testBit v = (M u v).testBit i
theorem Rel.zero (n : Nat) : Rel n (fun _ => 0) (fun _ _ => 0) := ⟨fun _ => Nat.two_pow_pos n, fun _ _ => by decide, fun _ _ _ _ _ _ => by simp⟩
theorem Rel.add {n : Nat} {F : Nat → Nat} {M : Nat → Nat → Nat} (h : Rel n F M) (fr to of : Int) : Rel n (addF n F fr to of) (addM n M fr to of) := by
  unfold addF addM
  by_cases he : addE n fr to of = 0
  · rw [if_pos he, if_pos he]
    have hc : 0 ≤ fr ∧ fr < n ∧ 0 ≤ to ∧ to < n := by
      unfold addE at he; split at he
      · assumption
      · exact absurd he (by decide)
    have ho : ¬ (of < 1 ∨ of > 15 ∨ fr = to) := by
      unfold addE at he; rw [if_pos hc] at he; split at he
      · exact absurd he (by decide)
      · assumption
    obtain ⟨u, rfl⟩ : ∃ u : Nat, fr = u := ⟨fr.toNat, by omega⟩
    obtain ⟨v, rfl⟩ : ∃ v : Nat, to = v := ⟨to.toNat, by omega⟩
    obtain ⟨o, rfl⟩ : ∃ o : Nat, of = o := ⟨of.toNat, by omega⟩
    simp only [Int.toNat_natCast]
    have hu : u < n := by omega
    have hv : v < n := by omega
    refine ⟨fun k => addK_lt hv h.lt 4 k, fun a b => ?_, fun i a b hi ha hb => ?_⟩
    · unfold upF
      split
      · show (if b = v then M u v ||| o else M u b) < 16
        split
        · exact Nat.or_lt_two_pow (n := 4) (h.lab _ _) (by omega)
        · exact h.lab _ _
      · exact h.lab _ _
    · rw [addK_at hu 4 ha, lb_nat]
      have hb' := h.bit i a b hi ha hb
      by_cases e1 : a = u
      · subst e1
        by_cases e2 : b = v
        · subst e2
          rw [upF_at, upF_at, Nat.testBit_or, ← hb']
          by_cases e3 : o.testBit i = true
          · rw [if_pos ⟨hi, rfl, e3⟩, Nat.testBit_or, e3]; simp
          · rw [if_neg (fun h => e3 h.2.2)]; simp [e3]
        · rw [upF_at, upF_ne _ _ e2, ← hb']
          split
          · rw [Nat.testBit_or, Nat.testBit_two_pow]; simp; intro h; exact absurd h.symm e2
          · rfl
      · rw [upF_ne _ _ e1, ← hb', if_neg (fun h => e1 h.2.1)]
  · rw [if_neg he, if_neg he]; exact h
/-- The document's graph, all of it staying. -/
def Xr (s : SH) (b n : Nat) (M : Nat → Nat → Nat) : Prop := ∃ bs, XrS s b n bs ∧ ∀ i, i < n → s (bs i) = some (.cells (rowI n (M i)) 3 (0, 0))
theorem Xr.mono {s t : SH} (hs : Sub s t) {b n : Nat} {M : Nat → Nat → Nat} (h : Xr s b n M) : Xr t b n M := by
  obtain ⟨bs, h1, h2⟩ := h
  exact ⟨bs, h1.mono hs, fun i hi => hs _ _ (h2 i hi)⟩
theorem wrap_n (n : Int) : ∃ N : Nat, N < 60 ∧ wrap64 ((IntKind.u64.wrap n).tmod 60) = N := by
  have h : 0 ≤ IntKind.u64.wrap n := by rw [IntKind.wrap_u64]; omega
  rw [Int.tmod_eq_emod_of_nonneg h]
  refine ⟨(IntKind.u64.wrap n % 60).toNat, by omega, ?_⟩
  unfold wrap64; omega
end Go.Proofs.YtemdmpgekegfhaaDoor
end

section
namespace Go.Proofs.YtemdmpgekegfhaaDoor
open Go.RowKit
set_option linter.all false
set_option maxRecDepth 10000

set_option maxHeartbeats 1000000 in
theorem drawn_c {E : World} {s : SH} {L : List HP} {w : World} (z : Int) {v : Value} {l : List Ed} (hl : kEd.Sl s v l) (H : Holds E s L w) :
    Calls Tryd.prog 18 #[.int .i64 z, v] w fun e w' => ∃ a b n F M s', e = .returned (.tuple #[.pointer (some ⟨a, 0, none⟩), .pointer (some ⟨b, 0, none⟩), .bool true]) ∧ Sub s s' ∧ n < 60 ∧ Rel n F M ∧ Gr s' a n F ∧ Xr s' b n M ∧ Holds E s' L w' := by
  obtain ⟨N, hN, eN⟩ := wrap_n z
  obtain ⟨A, c, rfl, -, hby, -⟩ := id hl
  have hll : l.length * 24 ≤ 140737488355328 := hby
  clear hby
  go_enter Tryd.func18, Tryd.ntmps18
  go_wp2_with (first
    | (go_at_call 59; refine (gnew_c (n := N) (by omega) H).mono ?_; clear H; rintro e w' ⟨a, s1, W, rfl, hs1, hG, H⟩)
    | (go_at_call 60; refine (xnew_c (n := N) (by omega) H).mono ?_; clear H; rintro e w' ⟨b, s2, bs, rfl, hs2, hX, H⟩))
  have H : Holds E s2 (xrP N (fun _ _ => 0) bs ++ (grP N (fun _ => 0) W ++ L)) w' := H
  have hG := hG.mono hs2
  have hl2 := hl.mono (hs1.trans hs2)
  clear hl
  go_loopw [35] (fun i wr => ∃ (t : Nat) (F : Nat → Nat) (M : Nat → Nat → Nat), t ≤ l.length ∧ i = .int .i64 t ∧ RowKit.Hid (Rel N F M) ∧ Holds E s2 (xrP N M bs ++ (grP N F W ++ L)) wr) (fun i _ => l.length - (intOf i).toNat)
  case atStart => exact ⟨0, _, _, Nat.zero_le _, rfl, Lib.hid (Rel.zero N), H⟩
  case round =>
    clear H
    obtain ⟨t, F, M, ht, rfl, hR, H⟩ := hrel
    by_cases hlt : t < l.length
    · obtain ⟨blk, off, cs, rfl, hK, hC⟩ := hl2.elem t hlt
      obtain ⟨rfl, hb0, hb1, hb2⟩ := kEd_op hK
      have h1 := kEd.one hK
      have hC : Cells s2 ⟨blk, off + t * 3, none⟩ _ := hC
      generalize l[t] = u at hK hb0 hb1 hb2 h1 hC
      go_wp2_with ((with_reducible refine OpG.list rfl ?_); first
        | (refine G_sN _ _ rfl (Tryd.isAgg37 _) rfl H hC (Tryd.sizeOf37 _) ?_)
        | (refine G_alloc 37 rfl (Tryd.zeroValue37 _) H ?_; clear H; intro g w4 H)
        | (refine G_setN _ _ _ rfl (Tryd.sizeOf37 _) rfl rfl h1 H rfl ?_; clear H; intro w4 H))
      refine wp_draw_C (k := 17) (sz := 59) [7, 15, 16] [.pointer (some ⟨a, 0, none⟩), .pointer (some ⟨g, 0, none⟩), .int .i64 u.from_, .pointer (some ⟨g, 1, none⟩), .int .i64 u.to, .pointer (some ⟨g, 2, none⟩), .int .i64 u.label, undef, .pointer (some ⟨b, 0, none⟩), .pointer (some ⟨g, 0, none⟩), .int .i64 u.from_, .pointer (some ⟨g, 1, none⟩), .int .i64 u.to, .pointer (some ⟨g, 2, none⟩), .int .i64 u.label, undef, undef] [pt g (.cells #[.int .i64 u.from_, .int .i64 u.to, .int .i64 u.label] 37 (0, 0))] [fun w x => x 7 = .int .i64 (addE N u.from_ u.to u.label) ∧ Holds E s2 (pt g (.cells #[.int .i64 u.from_, .int .i64 u.to, .int .i64 u.label] 37 (0, 0)) :: (xrP N M bs ++ (grP N (addF N F u.from_ u.to u.label) W ++ L))) w,
         fun w x => x 7 = .int .i64 (addE N u.from_ u.to u.label) ∧ x 15 = .int .i64 (addE N u.from_ u.to u.label) ∧ Holds E s2 (pt g (.cells #[.int .i64 u.from_, .int .i64 u.to, .int .i64 u.label] 37 (0, 0)) :: (xrP N (addM N M u.from_ u.to u.label) bs ++ (grP N (addF N F u.from_ u.to u.label) W ++ L))) w,
         fun w x => x 16 = .bool false ∧ Holds E s2 (pt g (.cells #[.int .i64 u.from_, .int .i64 u.to, .int .i64 u.label] 37 (0, 0)) :: (xrP N (addM N M u.from_ u.to u.label) bs ++ (grP N (addF N F u.from_ u.to u.label) W ++ L))) w]
        mixed (by simp) rfl (by kernel_rfl) (by kernel_rfl) (by kernel_rfl) (by simp) rfl H (by simp only [List.take_succ_cons, List.take_zero]; exact rfl) (by simp only [List.drop_succ_cons, List.drop_zero]; exact rfl)
        (fun x => by simp only [ov, Act.put, List.setIfInBounds_toArray, List.set_cons_succ, List.set_cons_zero, Nat.zero_add, Nat.reduceAdd]; exact rfl) ?_ ?_ ?_ ?_
      · refine ⟨?_, ?_, ?_, ?_, trivial⟩
        · intro w x hS; have H : Holds E s2 _ w := hS; exact ⟨_, _, Sub.refl _, H⟩
        · intro w x hS; obtain ⟨e7, H⟩ := hS; exact ⟨_, _, Sub.refl _, H⟩
        · intro w x hS; obtain ⟨e7, e15, H⟩ := hS; exact ⟨_, _, Sub.refl _, H⟩
        · intro w x hS; obtain ⟨e16, H⟩ := hS; exact ⟨_, _, Sub.refl _, H⟩
      · refine ⟨?_, ?_, ?_, ?_, ?_, ?_, ?_, ?_, ?_, ?_, ?_, ?_, ?_, ?_, ?_, ?_, ?_, trivial⟩
        · refine .inr ?_; intro s' R w' x Φ hs H hx hΦ; refine wantG rfl ?_; refine O_mv rfl rfl ?_; exact hΦ
        · refine .inr ?_; intro s' R w' x Φ hs H hx hΦ; refine wantG rfl ?_; refine O_fld rfl Tryd.underlying37 rfl (Tryd.sizeOf3 _) rfl ?_; exact hΦ
        · refine .inr ?_; intro s' R w' x Φ hs H hx hΦ; have e1 : x 1 = .pointer (some ⟨g, 0, none⟩) := hx 1 (by decide) (by decide); simp only [e1]; refine wantG rfl ?_; refine L_1 0 _ _ rfl (Tryd.isAgg3 _) rfl H rfl rfl ?_; exact hΦ
        · refine .inr ?_; intro s' R w' x Φ hs H hx hΦ; refine wantG rfl ?_; refine O_fld rfl Tryd.underlying37 rfl (Tryd.sizeOf3 _) rfl ?_; exact hΦ
        · refine .inr ?_; intro s' R w' x Φ hs H hx hΦ; have e3 : x 3 = .pointer (some ⟨g, 1, none⟩) := hx 3 (by decide) (by decide); simp only [e3]; refine wantG rfl ?_; refine L_1 0 _ _ rfl (Tryd.isAgg3 _) rfl H rfl rfl ?_; exact hΦ
        · refine .inr ?_; intro s' R w' x Φ hs H hx hΦ; refine wantG rfl ?_; refine O_fld rfl Tryd.underlying37 rfl (Tryd.sizeOf3 _) rfl ?_; exact hΦ
        · refine .inr ?_; intro s' R w' x Φ hs H hx hΦ; have e5 : x 5 = .pointer (some ⟨g, 2, none⟩) := hx 5 (by decide) (by decide); simp only [e5]; refine wantG rfl ?_; refine L_1 0 _ _ rfl (Tryd.isAgg3 _) rfl H rfl rfl ?_; exact hΦ
        · exact .inl (by decide)
        · refine .inr ?_; intro s' R w' x Φ hs H hx hΦ; refine wantG rfl ?_; refine O_mv rfl rfl ?_; exact hΦ
        · refine .inr ?_; intro s' R w' x Φ hs H hx hΦ; refine wantG rfl ?_; refine O_fld rfl Tryd.underlying37 rfl (Tryd.sizeOf3 _) rfl ?_; exact hΦ
        · refine .inr ?_; intro s' R w' x Φ hs H hx hΦ; have e9 : x 9 = .pointer (some ⟨g, 0, none⟩) := hx 9 (by decide) (by decide); simp only [e9]; refine wantG rfl ?_; refine L_1 0 _ _ rfl (Tryd.isAgg3 _) rfl H rfl rfl ?_; exact hΦ
        · refine .inr ?_; intro s' R w' x Φ hs H hx hΦ; refine wantG rfl ?_; refine O_fld rfl Tryd.underlying37 rfl (Tryd.sizeOf3 _) rfl ?_; exact hΦ
        · refine .inr ?_; intro s' R w' x Φ hs H hx hΦ; have e11 : x 11 = .pointer (some ⟨g, 1, none⟩) := hx 11 (by decide) (by decide); simp only [e11]; refine wantG rfl ?_; refine L_1 0 _ _ rfl (Tryd.isAgg3 _) rfl H rfl rfl ?_; exact hΦ
        · refine .inr ?_; intro s' R w' x Φ hs H hx hΦ; refine wantG rfl ?_; refine O_fld rfl Tryd.underlying37 rfl (Tryd.sizeOf3 _) rfl ?_; exact hΦ
        · refine .inr ?_; intro s' R w' x Φ hs H hx hΦ; have e13 : x 13 = .pointer (some ⟨g, 2, none⟩) := hx 13 (by decide) (by decide); simp only [e13]; refine wantG rfl ?_; refine L_1 0 _ _ rfl (Tryd.isAgg3 _) rfl H rfl rfl ?_; exact hΦ
        · exact .inl (by decide)
        · exact .inl (by decide)
      · refine ⟨?_, ?_, ?_, trivial⟩
        · intro o ho; obtain rfl := Option.some.inj ho; intro w' x Φ hS hx hΦ
          have H : Holds E s2 _ w' := hS
          have e0 : x 0 = .pointer (some ⟨a, 0, none⟩) := hx 0 (by decide) (by decide); have e2 : x 2 = .int .i64 u.from_ := hx 2 (by decide) (by decide); have e4 : x 4 = .int .i64 u.to := hx 4 (by decide) (by decide); have e6 : x 6 = .int .i64 u.label := hx 6 (by decide) (by decide); simp only [e0, e2, e4, e6]; refine wantG rfl ?_; 
          have H2 := Holds.swapApp (A := pt g (.cells #[.int .i64 u.from_, .int .i64 u.to, .int .i64 u.label] 37 (0, 0)) :: xrP N M bs) (B := grP N F W) H
          refine O_call4 rfl Tryd.func61 rfl rfl rfl rfl rfl rfl ?_; refine (gadd_c (by omega) _ _ _ hG H2).mono ?_
          clear H H2; rintro e w1 ⟨rfl, H⟩; refine ⟨_, rfl, ?_⟩
          exact hΦ _ _ ⟨updV_same, Holds.swapApp (B := pt g (.cells #[.int .i64 u.from_, .int .i64 u.to, .int .i64 u.label] 37 (0, 0)) :: xrP N M bs) H⟩
        · intro o ho; obtain rfl := Option.some.inj ho; intro w' x Φ hS hx hΦ
          obtain ⟨e7, H⟩ := hS
          have e8 : x 8 = .pointer (some ⟨b, 0, none⟩) := hx 8 (by decide) (by decide); have e10 : x 10 = .int .i64 u.from_ := hx 10 (by decide) (by decide); have e12 : x 12 = .int .i64 u.to := hx 12 (by decide) (by decide); have e14 : x 14 = .int .i64 u.label := hx 14 (by decide) (by decide); simp only [e8, e10, e12, e14]; refine wantG rfl ?_; 
          have H2 := Holds.swapApp (A := [pt g (.cells #[.int .i64 u.from_, .int .i64 u.to, .int .i64 u.label] 37 (0, 0))]) (B := xrP N M bs) H
          refine O_call4 rfl Tryd.func62 rfl rfl rfl rfl rfl rfl ?_; refine (xadd_c (by omega) _ _ _ hX hR.out.lab H2).mono ?_
          clear H H2; rintro e w1 ⟨rfl, H⟩; refine ⟨_, rfl, ?_⟩
          exact hΦ _ _ ⟨(updV_ne (by decide)).trans e7, updV_same, Holds.swapApp (B := [pt g (.cells #[.int .i64 u.from_, .int .i64 u.to, .int .i64 u.label] 37 (0, 0))]) H⟩
        · intro o ho; obtain rfl := Option.some.inj ho; intro w' x Φ hS hx hΦ
          obtain ⟨e7, e15, H⟩ := hS
          simp only [e7, e15]; refine wantG rfl ?_; 
          go_simp
          exact hΦ _ _ ⟨updV_same, H⟩
      · clear H
        intro w' x hS hx
        obtain ⟨e16, H⟩ := hS
        have e0 : x 0 = .pointer (some ⟨a, 0, none⟩) := hx 0 (by decide) (by decide); 
        have e1 : x 1 = .pointer (some ⟨g, 0, none⟩) := hx 1 (by decide) (by decide); 
        have e2 : x 2 = .int .i64 u.from_ := hx 2 (by decide) (by decide); 
        have e3 : x 3 = .pointer (some ⟨g, 1, none⟩) := hx 3 (by decide) (by decide); 
        have e4 : x 4 = .int .i64 u.to := hx 4 (by decide) (by decide); 
        have e5 : x 5 = .pointer (some ⟨g, 2, none⟩) := hx 5 (by decide) (by decide); 
        have e6 : x 6 = .int .i64 u.label := hx 6 (by decide) (by decide); 
        have e8 : x 8 = .pointer (some ⟨b, 0, none⟩) := hx 8 (by decide) (by decide); 
        have e9 : x 9 = .pointer (some ⟨g, 0, none⟩) := hx 9 (by decide) (by decide); 
        have e10 : x 10 = .int .i64 u.from_ := hx 10 (by decide) (by decide); 
        have e11 : x 11 = .pointer (some ⟨g, 1, none⟩) := hx 11 (by decide) (by decide); 
        have e12 : x 12 = .int .i64 u.to := hx 12 (by decide) (by decide); 
        have e13 : x 13 = .pointer (some ⟨g, 2, none⟩) := hx 13 (by decide) (by decide); 
        have e14 : x 14 = .int .i64 u.label := hx 14 (by decide) (by decide); 
        simp only [e0, e1, e2, e3, e4, e5, e6, e8, e9, e10, e11, e12, e13, e14, e16]
        clear hx e16 e0 e1 e2 e3 e4 e5 e6 e8 e9 e10 e11 e12 e13 e14
        generalize x 7 = y7
        generalize x 15 = y15
        clear x
        have H := H.drop
        go_wp2
        refine ⟨⟨t + 1, _, _, by omega, rfl, Lib.hid (hR.out.add _ _ _), H⟩, ?_⟩
        simp only [intOf]; omega
    · obtain rfl : t = l.length := by omega
      go_wp2
      obtain ⟨s3, hs3, H, hx⟩ := fam_fr (b := bs) (o := fun i => .cells (rowI N (M i)) 3 (0, 0)) H
      obtain ⟨s4, hs4, hgr, H⟩ := Gr.freeze (hG.mono hs3) H
      exact ret3 rfl (rv_tmp rfl) (rv_tmp rfl) (rv_tmp rfl) rfl ⟨a, b, N, F, M, s4, rfl, (hs1.trans hs2).trans (hs3.trans hs4), hN, hR.out, hgr, ⟨bs, (hX.mono hs3).mono hs4, fun i hi => hs4 _ _ (hx i hi)⟩, H⟩
end Go.Proofs.YtemdmpgekegfhaaDoor
end
