/- Sparse pairs: the program's way. -/
import Derived.Test.YtkppfcfnpajpbaaRtFull
import Derived.Test.YtkppfcfnpajpbaaMake
namespace Go.Proofs.Ytkppfcfnpajpbaa
open Go.RowKit
set_option linter.all false

/-- Transaction k ends ahead of what is known. -/
def better (xs : List Txn) (k : Nat) : Option Nat → Bool
  | none => true
  | some j => decide ((xs.getD k default).to < (xs.getD j default).to)
/-- Behind transaction i the earliest end among the first k. -/
def bestTo (xs : List Txn) (i : Nat) : Nat → Option Nat
  | 0 => none
  | k + 1 => if bfr xs i k && decide (0 ≤ (xs.getD k default).to) && better xs k (bestTo xs i k) then some k else bestTo xs i k
def ev : Option Nat → Int
  | none => -1
  | some j => j
theorem bestTo_lt (xs : List Txn) (i : Nat) : ∀ k j, bestTo xs i k = some j → j < k
  | 0, j, h => by cases h
  | k + 1, j, h => by
    unfold bestTo at h
    by_cases hc : (bfr xs i k && decide (0 ≤ (xs.getD k default).to) && better xs k (bestTo xs i k)) = true
    · rw [if_pos hc] at h; cases h; omega
    · rw [if_neg hc] at h; have := bestTo_lt xs i k j h; omega
def endsTo (xs : List Txn) (i : Nat) : List Int := (List.range xs.length).map fun j => if j < i then ev (bestTo xs j xs.length) else 0
theorem endsTo_len (xs : List Txn) (i : Nat) : (endsTo xs i).length = xs.length := by simp [endsTo]
theorem endsTo_zero (xs : List Txn) : endsTo xs 0 = List.replicate xs.length 0 := by
  unfold endsTo
  apply List.ext_getElem <;> simp
theorem endsTo_set (xs : List Txn) (i : Nat) (hi : i < xs.length) : (endsTo xs i).set i (ev (bestTo xs i xs.length)) = endsTo xs (i + 1) := by
  unfold endsTo
  apply List.ext_getElem
  · simp
  · intro n h1 h2
    rw [List.getElem_set]
    simp only [List.getElem_map, List.getElem_range]
    by_cases e : i = n
    · subst e; simp
    · rw [if_neg e]
      by_cases h : n < i
      · rw [if_pos h, if_pos (by omega)]
      · rw [if_neg h, if_neg (by omega)]
def spq (xs : List Txn) (i k : Nat) : Bool := match bestTo xs i xs.length with | none => true | some j => !bfr xs j k
def sparse (xs : List Txn) : List (Int × Int) := prsTo (fun i k => bfr xs i k && spq xs i k) xs.length xs.length
theorem ev_in (xs : List Txn) (i k : Nat) (hn : xs.length ≤ 1000) (hk : k ≤ xs.length) : Kin.inI64 (ev (bestTo xs i k)) := by
  unfold ev
  split
  · constructor <;> omega
  · rename_i j h
    have := bestTo_lt xs i k j h
    constructor <;> omega
theorem kI_mkM {E : World} {s : SH} {L : List HP} {w : World} (H : Holds E s L w) (i : Int) (h1 : Kin.inI64 i) : Holds E s (kI.M i [.int .i64 i] :: L) w :=
  H.mkEmp.map fun h e => ⟨⟨rfl, h1⟩, e⟩

set_option maxHeartbeats 32000000 in
theorem sparse_spec {E : World} {s : SH} {L : List HP} {w : World} {v : Value} {xs : List Txn} (H : Holds E s L w) (hv : kT.Sl s v xs) (hn : xs.length ≤ 1000) (hsp : ∀ (s' : SH) (w : World) (L : List HP) (v : Value) (b1 b3 : Nat) (ve : Value),
      kT.Sl s' v xs → s' b1 = some (.cells #[v] 22 (0, 0)) → s' b3 = some (.cells #[ve] 42 (0, 0)) → kI.Sl s' ve (endsTo xs xs.length) → ∀ i k, i < xs.length → k < xs.length →
      Holds E s' L w → Calls Try.prog 28 #[.int .i64 i, .int .i64 k, .pointer (some ⟨b3, 0, none⟩), .pointer (some ⟨b1, 0, none⟩)] w fun e w' => e = .returned (.bool (spq xs i k)) ∧ Holds E s' L w') :
    Calls Try.prog 12 #[v] w fun e w' => ∃ v' s', e = .returned v' ∧ Sub s s' ∧ Holds E s' (kPr.Osl v' (sparse xs) :: L) w' := by
  have hv0 := hv
  obtain ⟨A, capv, rfl, h1, h2, -⟩ := hv
  clear h2
  have HSP := Lib.hid hsp
  clear hsp
  go_enter Try.func12, Try.ntmps12
  go_wp2_with (first
    | ((with_reducible refine OpG.list rfl ?_); first
      | (refine G_box 22 _ rfl (v := Value.slice _ _ _) rfl H ?_; clear H; intro b1 w1 H; simp only [Value.cells] at H)
      | (refine G_p1i 0 _ _ rfl (Try.isAgg22 _) rfl H rfl rfl ?_)
      | (refine G_p1i 2 _ _ rfl (Try.isAgg22 _) rfl H rfl rfl ?_)
      | (refine G_make kI_at _ _ rfl xs.length rfl rfl 0 (fun i z hi hz h e => ?_) ?_ H ?_; (case refine_1 => rw [show Try.prog.info? kI.e = some Try.t3 from Try.type3] at hi; cases hi; cases hz; exact ⟨⟨rfl, by constructor <;> omega⟩, e⟩); (case refine_2 => show xs.length * 8 ≤ _; omega); clear H; intro ve w2 H; obtain ⟨B, capB, hve, hcb, -, -⟩ := H.len; subst hve)
      | (refine G_alloc 42 rfl (Try.zeroValue42 _) H ?_; clear H; intro b3 w3 H)
      | (refine G_set1i 0 (v := Value.slice _ _ _) _ _ _ rfl (Try.sizeOf42 _) rfl rfl rfl H rfl (by decide) ?_; clear H; intro w4 H; simp only [List.set_cons_zero, Value.cells, List.setIfInBounds_toArray] at H)))
  rw [List.length_replicate] at hcb H
  go_loopw [12] (fun i wr => ∃ k : Nat, k ≤ xs.length ∧ i = .int .i64 k ∧ ∃ s', Sub s s' ∧ Holds E s' (pt b3 (.cells #[.slice B xs.length capB] 42 (0, 0)) :: kI.Osl (.slice B xs.length capB) (endsTo xs k) :: pt b1 (.cells #[.slice A xs.length capv] 22 (0, 0)) :: L) wr) (fun i _ => xs.length - (intOf i).toNat)
  case atStart => exact ⟨0, Nat.zero_le _, rfl, s, Sub.refl s, by rw [endsTo_zero]; exact H⟩
  case round =>
    clear H
    obtain ⟨i, hi, rfl, s1, hs1, H⟩ := hrel
    by_cases hlt : i < xs.length
    · obtain ⟨b, off, c, rfl, hK, hC⟩ := hv0.elem i hlt
      obtain ⟨vx, rfl, -, -, -, -, -⟩ := kT_open hK
      have hC : Cells s ⟨b, off + i * 5, none⟩ _ := hC
      have hxi : xs.getD i default = xs[i] := by rw [List.getD_eq_getElem?_getD, List.getElem?_eq_getElem hlt]; rfl
      have HXI := Lib.hid hxi
      generalize hx : xs[i] = x at *
      clear hx hxi hK
      obtain ⟨be, capE, cur, ce, R, hve, hcs, hcz, H2, -, hcl, -, hset⟩ := Kin.Osl.focus_set H.swap i (by rw [endsTo_len]; exact hlt)
      rw [endsTo_len] at hve
      cases hve
      have hqi0 : i < cur.size := by
        have : i * 1 + 1 ≤ cur.size := hcz
        omega
      have H3 := H2.swap.drop
      clear H H2
      have H := H3
      clear H3
      go_wp2_with (first
        | ((with_reducible refine OpG.list rfl ?_); first
          | (refine G_p1i 2 _ _ rfl (Try.isAgg42 _) rfl H rfl rfl ?_)
          | (refine G_p1i 3 _ _ rfl (Try.isAgg22 _) rfl H rfl rfl ?_)
          | (refine G_set1i 0 (v := Value.int .i64 (-1)) _ _ _ rfl (Try.sizeOf3 _) rfl rfl rfl H rfl hqi0 ?_; clear H; intro w4 H; simp only [List.set_cons_zero] at H)))
      go_loopw [20] (fun j wr => ∃ k : Nat, k ≤ xs.length ∧ j = .int .i64 k ∧ ∃ s', Sub s s' ∧ Holds E s' (pt be (.cells (cur.setIfInBounds i (.int .i64 (ev (bestTo xs i k)))) kI.e (0, 0)) :: R :: pt b3 (.cells #[.slice (some ⟨be, 0, none⟩) xs.length capB] 42 (0, 0)) :: pt b1 (.cells #[.slice (some ⟨b, off, none⟩) xs.length capv] 22 (0, 0)) :: L) wr) (fun j _ => xs.length - (intOf j).toNat)
      case atStart => exact ⟨0, Nat.zero_le _, rfl, s1, hs1, H⟩
      case round =>
        clear H
        obtain ⟨k, hk, rfl, s2, hs2, H⟩ := hrel
        by_cases hltk : k < xs.length
        · obtain ⟨b', off', c', he, hK', hC'⟩ := hv0.elem k hltk
          cases he
          obtain ⟨vy, rfl, -, -, -, -, -⟩ := kT_open hK'
          have hC' : Cells s ⟨b, off + k * 5, none⟩ _ := hC'
          have hyk : xs.getD k default = xs[k] := by rw [List.getD_eq_getElem?_getD, List.getElem?_eq_getElem hltk]; rfl
          have HYK := Lib.hid hyk
          generalize hy : xs[k] = y at *
          clear hy hyk
          have hB : ∀ (s : SH) L (w : World), Holds E s L w → Calls Try.prog 10 #[tv x.proc x.state x.from_ x.to vx, tv y.proc y.state y.from_ y.to vy] w fun e w' => e = .returned (.bool (bef x.state x.to y.state y.from_)) ∧ Holds E s L w' := fun s L w H => before_spec _ _ _ _ _ _ _ _ _ _ H
          have hbf : bfr xs i k = bef x.state x.to y.state y.from_ := by unfold bfr before; rw [HXI.out, HYK.out]
          have hstep : bestTo xs i (k + 1) = if bef x.state x.to y.state y.from_ && decide (0 ≤ y.to) && better xs k (bestTo xs i k) then some k else bestTo xs i k := by
            rw [← hbf, ← HYK.out]; rfl
          have hltb := bestTo_lt xs i k
          have hbe : (cur.setIfInBounds i (.int .i64 (ev (bestTo xs i k))))[i]? = some (.int .i64 (ev (bestTo xs i k))) := by rw [Array.getElem?_setIfInBounds, if_pos rfl, if_pos hqi0]
          have hqi : i < (cur.setIfInBounds i (.int .i64 (ev (bestTo xs i k)))).size := by simpa using hqi0
          generalize bef x.state x.to y.state y.from_ = rb at *
          generalize bestTo xs i k = be0 at *
          have HB := Lib.hid hB
          have HST := Lib.hid hstep
          clear hB hbf hstep
          go_wp2_with (first
            | ((with_reducible refine OpG.list rfl ?_); first
              | (refine G_p1i 3 _ _ rfl (Try.isAgg22 _) rfl H rfl rfl ?_)
              | (refine G_sN _ _ rfl (Try.isAgg26 _) rfl H (hC'.mono hs2) (Try.sizeOf26 _) ?_)
              | (refine G_alloc 26 rfl (Try.zeroValue26 _) H ?_; clear H; intro g w1 H)
              | (refine G_setN _ _ _ rfl (Try.sizeOf26 _) rfl rfl (kT.one hK') H rfl ?_; clear H; intro w1 H)))
          clear hK'
          cases rb with
          | false =>
            go_wp2_with fail
            refine wp_draw_ob (k := 31) (sz := 65) mixed (by simp) rfl (by kernel_rfl) (by kernel_rfl) H (by simp only [List.take_succ_cons, List.take_zero]; exact rfl) (by simp only [List.drop_succ_cons, List.drop_zero]; exact rfl)
              (fun y => by simp only [ov, Act.put, List.setIfInBounds_toArray, List.set_cons_succ, List.set_cons_zero]; exact rfl) ?_
            iterate 31 (apply Ob.valw; (intro s' w' y Φ hs H hG hΦ; simp [dh, isV, dep, Region.binds] at hG; (try simp only [hG]); first
              | (refine wantN rfl ?_; exact hΦ _ _ (Sub.refl _) H)
              | (refine wantY rfl ?_; first
                | (refine G_sN _ _ rfl (Try.isAgg26 _) rfl H (hC.mono (hs2.trans hs)) (Try.sizeOf26 _) ?_; exact hΦ _ _ (Sub.refl _) H)
                | (refine G_pNi 0 _ _ rfl (Try.isAgg26 _) rfl H rfl (Try.sizeOf26 _) ?_; exact hΦ _ _ (Sub.refl _) H)
                | (refine G_p1i 4 _ _ rfl (Try.isAgg22 _) rfl H rfl rfl ?_; exact hΦ _ _ (Sub.refl _) H)
                | (refine G_p1i 3 _ _ rfl (Try.isAgg42 _) rfl H rfl rfl ?_; exact hΦ _ _ (Sub.refl _) H)
                | (refine G_p1i 1 _ _ rfl (Try.isAgg3 _) rfl H rfl hbe ?_; exact hΦ _ _ (Sub.refl _) H)
                | (refine G_p1i 0 _ _ rfl (Try.isAgg3 _) rfl H rfl rfl ?_; exact hΦ _ _ (Sub.refl _) H)
                | (go_simp; first | (exact hΦ _ _ (Sub.refl _) H) | (refine (HB.out _ _ _ H).mono ?_; rintro e w1 ⟨rfl, H1⟩; exact ⟨_, rfl, hΦ _ _ (Sub.refl _) H1⟩)))))
            clear H
            intro s3 w3 yy hs3 H hG
            simp [gh, isV] at hG
            simp only [hG]
            clear hG
            go_wp2
            go_roundw
            case rel => exact ⟨k + 1, by omega, by go_num, s3, hs2.trans hs3, by rw [HST.out]; simpa using H.drop⟩
            case measure => simp [intOf]; omega
          | true =>
            by_cases hto : 0 ≤ y.to
            · cases be0 with
              | none =>
                have hbe : (cur.setIfInBounds i (.int .i64 (-1)))[i]? = some (.int .i64 (-1)) := hbe
                have hqi : i < (cur.setIfInBounds i (.int .i64 (-1))).size := hqi
                have H : Holds E s2 (pt g (.cells (tcells y.proc y.state y.from_ y.to vy).toArray 26 (0, 0)) :: pt be (.cells (cur.setIfInBounds i (.int .i64 (-1))) kI.e (0, 0)) :: R :: pt b3 (.cells #[.slice (some ⟨be, 0, none⟩) xs.length capB] 42 (0, 0)) :: pt b1 (.cells #[.slice (some ⟨b, off, none⟩) xs.length capv] 22 (0, 0)) :: L) _ := H
                go_wp2_with fail
                refine wp_draw_ob (k := 31) (sz := 65) mixed (by simp) rfl (by kernel_rfl) (by kernel_rfl) H (by simp only [List.take_succ_cons, List.take_zero]; exact rfl) (by simp only [List.drop_succ_cons, List.drop_zero]; exact rfl)
                  (fun y => by simp only [ov, Act.put, List.setIfInBounds_toArray, List.set_cons_succ, List.set_cons_zero]; exact rfl) ?_
                iterate 31 (apply Ob.valw; (intro s' w' y Φ hs H hG hΦ; simp [dh, isV, dep, Region.binds] at hG; (try simp only [hG]); first
                  | (refine wantN rfl ?_; exact hΦ _ _ (Sub.refl _) H)
                  | (refine wantY rfl ?_; first
                    | (refine G_sN _ _ rfl (Try.isAgg26 _) rfl H (hC.mono (hs2.trans hs)) (Try.sizeOf26 _) ?_; exact hΦ _ _ (Sub.refl _) H)
                    | (refine G_pNi 0 _ _ rfl (Try.isAgg26 _) rfl H rfl (Try.sizeOf26 _) ?_; exact hΦ _ _ (Sub.refl _) H)
                    | (refine G_p1i 4 _ _ rfl (Try.isAgg22 _) rfl H rfl rfl ?_; exact hΦ _ _ (Sub.refl _) H)
                    | (refine G_p1i 3 _ _ rfl (Try.isAgg42 _) rfl H rfl rfl ?_; exact hΦ _ _ (Sub.refl _) H)
                    | (refine G_p1i 1 _ _ rfl (Try.isAgg3 _) rfl H rfl hbe ?_; exact hΦ _ _ (Sub.refl _) H)
                    | (refine G_p1i 0 _ _ rfl (Try.isAgg3 _) rfl H rfl rfl ?_; exact hΦ _ _ (Sub.refl _) H)
                    | (go_simp; first | (exact hΦ _ _ (Sub.refl _) H) | (refine (HB.out _ _ _ H).mono ?_; rintro e w1 ⟨rfl, H1⟩; exact ⟨_, rfl, hΦ _ _ (Sub.refl _) H1⟩)))))
                clear H
                intro s3 w3 yy hs3 H hG
                simp [gh, isV] at hG
                simp only [hG]
                clear hG
                go_wp2_with (first
                  | ((with_reducible refine OpG.list rfl ?_); first
                    | (refine G_p1i 3 _ _ rfl (Try.isAgg42 _) rfl H rfl rfl ?_)
                    | (refine G_set1i 1 (v := Value.int .i64 _) _ _ _ rfl (Try.sizeOf3 _) rfl rfl rfl H rfl hqi ?_; clear H; intro w4 H; simp only [List.set_cons_zero, List.set_cons_succ, Array.setIfInBounds_setIfInBounds] at H)))
                go_roundw
                case rel => exact ⟨k + 1, by omega, by go_num, s3, hs2.trans hs3, by rw [HST.out]; simp only [better, Bool.true_and, hto, decide_true, Bool.and_self, if_true, ev]; exact H.drop⟩
                case measure => simp [intOf]; omega
              | some j =>
                have hj := hltb j rfl
                have hbe : (cur.setIfInBounds i (.int .i64 (j : Int)))[i]? = some (.int .i64 (j : Int)) := hbe
                have hqi : i < (cur.setIfInBounds i (.int .i64 (j : Int))).size := hqi
                have H : Holds E s2 (pt g (.cells (tcells y.proc y.state y.from_ y.to vy).toArray 26 (0, 0)) :: pt be (.cells (cur.setIfInBounds i (.int .i64 (j : Int))) kI.e (0, 0)) :: R :: pt b3 (.cells #[.slice (some ⟨be, 0, none⟩) xs.length capB] 42 (0, 0)) :: pt b1 (.cells #[.slice (some ⟨b, off, none⟩) xs.length capv] 22 (0, 0)) :: L) _ := H
                have hjn : j < xs.length := by omega
                obtain ⟨b', off', c', he, hKj, hCj⟩ := hv0.elem j hjn
                cases he
                obtain ⟨vz, rfl, -, -, -, -, -⟩ := kT_open hKj
                have hCj : Cells s ⟨b, off + j * 5, none⟩ _ := hCj
                have hzj : xs.getD j default = xs[j] := by rw [List.getD_eq_getElem?_getD, List.getElem?_eq_getElem hjn]; rfl
                have HZJ := Lib.hid hzj
                generalize hz : xs[j] = z at *
                clear hz hzj hKj hltb
                have hj0 : ¬ ((j : Int) < 0) := by omega
                by_cases hcmp : y.to < z.to
                · have hd : decide (y.to < z.to) = true := by simpa using hcmp
                  go_wp2_with fail
                  refine wp_draw_ob (k := 31) (sz := 65) mixed (by simp) rfl (by kernel_rfl) (by kernel_rfl) H (by simp only [List.take_succ_cons, List.take_zero]; exact rfl) (by simp only [List.drop_succ_cons, List.drop_zero]; exact rfl)
                    (fun y => by simp only [ov, Act.put, List.setIfInBounds_toArray, List.set_cons_succ, List.set_cons_zero]; exact rfl) ?_
                  iterate 31 (apply Ob.valw; (intro s' w' y Φ hs H hG hΦ; simp [dh, isV, dep, Region.binds] at hG; (try simp only [hG]); first
                    | (refine wantN rfl ?_; exact hΦ _ _ (Sub.refl _) H)
                    | (refine wantY rfl ?_; first
                      | (refine G_sN _ _ rfl (Try.isAgg26 _) rfl H (hC.mono (hs2.trans hs)) (Try.sizeOf26 _) ?_; exact hΦ _ _ (Sub.refl _) H)
                      | (refine G_pNi 0 _ _ rfl (Try.isAgg26 _) rfl H rfl (Try.sizeOf26 _) ?_; exact hΦ _ _ (Sub.refl _) H)
                      | (refine G_p1i 4 _ _ rfl (Try.isAgg22 _) rfl H rfl rfl ?_; exact hΦ _ _ (Sub.refl _) H)
                      | (refine G_p1i 3 _ _ rfl (Try.isAgg42 _) rfl H rfl rfl ?_; exact hΦ _ _ (Sub.refl _) H)
                      | (refine G_p1i 1 _ _ rfl (Try.isAgg3 _) rfl H rfl hbe ?_; exact hΦ _ _ (Sub.refl _) H)
                      | (refine G_p1i 0 _ _ rfl (Try.isAgg3 _) rfl H rfl rfl ?_; exact hΦ _ _ (Sub.refl _) H)
                      | (refine G_s1 _ _ rfl (Try.isAgg3 _) rfl H (hCj.mono (hs2.trans hs)) 3 rfl rfl ?_; exact hΦ _ _ (Sub.refl _) H)
                      | (go_simp; first | (exact hΦ _ _ (Sub.refl _) H) | (refine (HB.out _ _ _ H).mono ?_; rintro e w1 ⟨rfl, H1⟩; exact ⟨_, rfl, hΦ _ _ (Sub.refl _) H1⟩)))))
                  clear H
                  intro s3 w3 yy hs3 H hG
                  simp [gh, isV] at hG
                  simp only [hG]
                  clear hG
                  go_wp2_with (first
                    | ((with_reducible refine OpG.list rfl ?_); first
                      | (refine G_p1i 3 _ _ rfl (Try.isAgg42 _) rfl H rfl rfl ?_)
                      | (refine G_set1i 1 (v := Value.int .i64 _) _ _ _ rfl (Try.sizeOf3 _) rfl rfl rfl H rfl hqi ?_; clear H; intro w4 H; simp only [List.set_cons_zero, List.set_cons_succ, Array.setIfInBounds_setIfInBounds] at H)))
                  go_roundw
                  case rel => exact ⟨k + 1, by omega, by go_num, s3, hs2.trans hs3, by rw [HST.out]; simp only [better, HYK.out, HZJ.out, Bool.true_and, hto, hd, decide_true, Bool.and_self, if_true, ev]; exact H.drop⟩
                  case measure => simp [intOf]; omega
                · have hd : decide (y.to < z.to) = false := by simpa using hcmp
                  go_wp2_with fail
                  refine wp_draw_ob (k := 31) (sz := 65) mixed (by simp) rfl (by kernel_rfl) (by kernel_rfl) H (by simp only [List.take_succ_cons, List.take_zero]; exact rfl) (by simp only [List.drop_succ_cons, List.drop_zero]; exact rfl)
                    (fun y => by simp only [ov, Act.put, List.setIfInBounds_toArray, List.set_cons_succ, List.set_cons_zero]; exact rfl) ?_
                  iterate 31 (apply Ob.valw; (intro s' w' y Φ hs H hG hΦ; simp [dh, isV, dep, Region.binds] at hG; (try simp only [hG]); first
                    | (refine wantN rfl ?_; exact hΦ _ _ (Sub.refl _) H)
                    | (refine wantY rfl ?_; first
                      | (refine G_sN _ _ rfl (Try.isAgg26 _) rfl H (hC.mono (hs2.trans hs)) (Try.sizeOf26 _) ?_; exact hΦ _ _ (Sub.refl _) H)
                      | (refine G_pNi 0 _ _ rfl (Try.isAgg26 _) rfl H rfl (Try.sizeOf26 _) ?_; exact hΦ _ _ (Sub.refl _) H)
                      | (refine G_p1i 4 _ _ rfl (Try.isAgg22 _) rfl H rfl rfl ?_; exact hΦ _ _ (Sub.refl _) H)
                      | (refine G_p1i 3 _ _ rfl (Try.isAgg42 _) rfl H rfl rfl ?_; exact hΦ _ _ (Sub.refl _) H)
                      | (refine G_p1i 1 _ _ rfl (Try.isAgg3 _) rfl H rfl hbe ?_; exact hΦ _ _ (Sub.refl _) H)
                      | (refine G_p1i 0 _ _ rfl (Try.isAgg3 _) rfl H rfl rfl ?_; exact hΦ _ _ (Sub.refl _) H)
                      | (refine G_s1 _ _ rfl (Try.isAgg3 _) rfl H (hCj.mono (hs2.trans hs)) 3 rfl rfl ?_; exact hΦ _ _ (Sub.refl _) H)
                      | (go_simp; first | (exact hΦ _ _ (Sub.refl _) H) | (refine (HB.out _ _ _ H).mono ?_; rintro e w1 ⟨rfl, H1⟩; exact ⟨_, rfl, hΦ _ _ (Sub.refl _) H1⟩)))))
                  clear H
                  intro s3 w3 yy hs3 H hG
                  simp [gh, isV] at hG
                  simp only [hG]
                  clear hG
                  go_wp2
                  go_roundw
                  case rel => exact ⟨k + 1, by omega, by go_num, s3, hs2.trans hs3, by rw [HST.out]; simp only [better, HYK.out, HZJ.out, hd, Bool.and_false, Bool.false_eq_true, if_false, ev]; exact H.drop⟩
                  case measure => simp [intOf]; omega
            · have hd : decide (0 ≤ y.to) = false := by simpa using hto
              go_wp2_with fail
              refine wp_draw_ob (k := 31) (sz := 65) mixed (by simp) rfl (by kernel_rfl) (by kernel_rfl) H (by simp only [List.take_succ_cons, List.take_zero]; exact rfl) (by simp only [List.drop_succ_cons, List.drop_zero]; exact rfl)
                (fun y => by simp only [ov, Act.put, List.setIfInBounds_toArray, List.set_cons_succ, List.set_cons_zero]; exact rfl) ?_
              iterate 31 (apply Ob.valw; (intro s' w' y Φ hs H hG hΦ; simp [dh, isV, dep, Region.binds] at hG; (try simp only [hG]); first
                | (refine wantN rfl ?_; exact hΦ _ _ (Sub.refl _) H)
                | (refine wantY rfl ?_; first
                  | (refine G_sN _ _ rfl (Try.isAgg26 _) rfl H (hC.mono (hs2.trans hs)) (Try.sizeOf26 _) ?_; exact hΦ _ _ (Sub.refl _) H)
                  | (refine G_pNi 0 _ _ rfl (Try.isAgg26 _) rfl H rfl (Try.sizeOf26 _) ?_; exact hΦ _ _ (Sub.refl _) H)
                  | (refine G_p1i 4 _ _ rfl (Try.isAgg22 _) rfl H rfl rfl ?_; exact hΦ _ _ (Sub.refl _) H)
                  | (refine G_p1i 3 _ _ rfl (Try.isAgg42 _) rfl H rfl rfl ?_; exact hΦ _ _ (Sub.refl _) H)
                  | (refine G_p1i 1 _ _ rfl (Try.isAgg3 _) rfl H rfl hbe ?_; exact hΦ _ _ (Sub.refl _) H)
                  | (refine G_p1i 0 _ _ rfl (Try.isAgg3 _) rfl H rfl rfl ?_; exact hΦ _ _ (Sub.refl _) H)
                  | (go_simp; first | (exact hΦ _ _ (Sub.refl _) H) | (refine (HB.out _ _ _ H).mono ?_; rintro e w1 ⟨rfl, H1⟩; exact ⟨_, rfl, hΦ _ _ (Sub.refl _) H1⟩)))))
              clear H
              intro s3 w3 yy hs3 H hG
              simp [gh, isV] at hG
              simp only [hG]
              clear hG
              go_wp2
              go_roundw
              case rel => exact ⟨k + 1, by omega, by go_num, s3, hs2.trans hs3, by rw [HST.out]; simp only [hd, Bool.and_false, Bool.false_and, Bool.false_eq_true, if_false]; exact H.drop⟩
              case measure => simp [intOf]; omega
        · obtain rfl : k = xs.length := by omega
          go_wp2
          go_roundw
          case rel =>
            refine ⟨i + 1, by omega, by go_num, s2, hs2, ?_⟩
            obtain ⟨c0, rfl⟩ := List.length_eq_one_iff.1 hcl
            have hs0 := hset s2 (pt b3 (.cells #[.slice (some ⟨be, 0, none⟩) xs.length capB] 42 (0, 0)) :: pt b1 (.cells #[.slice (some ⟨b, off, none⟩) xs.length capv] 22 (0, 0)) :: L) wr (ev (bestTo xs i xs.length)) 0 (.int .i64 (ev (bestTo xs i xs.length))) (by decide)
            have e0 : i * kI.sz + 0 = i := by show i * 1 + 0 = i; omega
            rw [e0] at hs0
            have e1 := hs0 (kI_mkM H _ (ev_in xs i xs.length hn (Nat.le_refl _))).swap
            rw [endsTo_set xs i hlt] at e1
            exact e1.swap
          case measure => simp [intOf]; omega
    · obtain rfl : i = xs.length := by omega
      obtain ⟨s2, hs2, hb3, H⟩ := H.freeze
      obtain ⟨s3, hs3, H, hends⟩ := Kin.Osl.fr H
      obtain ⟨s4, hs4, hb1, H⟩ := H.freeze
      have hsub := ((hs1.trans hs2).trans hs3).trans hs4
      have hp := pairs_spec H (hv0.mono hsub) hn 28 #[.pointer (some ⟨b3, 0, none⟩), .pointer (some ⟨b1, 0, none⟩)] (fun _ _ => Try.call28 _ _) (spq xs)
        (fun i k hi hk s' R w hs' H => HSP.out s' w (R :: L) _ b1 b3 _ (hv0.mono (hsub.trans hs')) (hs' _ _ hb1) (hs' _ _ (hs4 _ _ (hs3 _ _ hb3))) (hends.mono (hs4.trans hs')) i k hi hk H)
      have HP := Lib.hid hp
      have hc1 := (Cells.of_s (cs := [_]) hb1)
      clear hp
      go_wp2_with (first
        | ((with_reducible refine OpG.list rfl ?_); (refine G_s1 _ _ rfl (Try.isAgg22 _) rfl H hc1 0 rfl rfl ?_))
        | (go_at_call 26; refine HP.out.mono ?_; clear H; rintro e w1 ⟨v1, s5, rfl, hs5, H⟩))
      go_ret
      exact ⟨_, s5, rfl, hsub.trans hs5, H⟩
end Go.Proofs.Ytkppfcfnpajpbaa
