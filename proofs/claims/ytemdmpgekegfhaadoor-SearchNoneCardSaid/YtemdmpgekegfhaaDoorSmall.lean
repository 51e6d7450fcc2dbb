/- The first forty transactions, of each the first ten operations, of each list the first forty values. -/
import Derived.Test.YtemdmpgekegfhaaDoorPlainB
import Derived.Test.YtemdmpgekegfhaaDoorFocus
import Derived.Lib.Hide
namespace Go.Proofs.YtemdmpgekegfhaaDoor
open Go.RowKit
set_option linter.all false
set_option maxRecDepth 10000

def cutO (o : Op') : Op' := { o with list := o.list.take 40 }
def cutT (t : Txn) : Txn := { t with ops := (t.ops.take 10).map cutO }
def small (l : List Txn) : List Txn := (l.take 40).map cutT
def cutUpto {α : Type} (f : α → α) (i : Nat) (l : List α) : List α := (l.take i).map f ++ l.drop i
theorem cutUpto_len {α : Type} (f : α → α) (i : Nat) (l : List α) : (cutUpto f i l).length = l.length := by
  simp only [cutUpto, List.length_append, List.length_map, List.length_take, List.length_drop]; omega
theorem cutUpto_get {α : Type} (f : α → α) (i : Nat) (l : List α) (h : i < l.length) : (cutUpto f i l)[i]'(by rw [cutUpto_len]; exact h) = l[i] := by
  simp only [cutUpto]
  rw [List.getElem_append_right (by simp; omega)]
  simp; congr 1; omega
theorem cutUpto_set {α : Type} (f : α → α) (i : Nat) (l : List α) (h : i < l.length) : (cutUpto f i l).set i (f l[i]) = cutUpto f (i + 1) l := by
  simp only [cutUpto]
  have e : l.drop i = l[i] :: l.drop (i + 1) := List.drop_eq_getElem_cons h
  rw [e, List.set_append_right _ _ (by simp; omega), List.take_succ_eq_append_getElem h, List.map_append, List.append_assoc]
  have : i - (List.map f (List.take i l)).length = 0 := by simp; omega
  rw [this]; rfl
theorem cutUpto_zero {α : Type} (f : α → α) (l : List α) : cutUpto f 0 l = l := by simp [cutUpto]
theorem cutUpto_all {α : Type} (f : α → α) (l : List α) : cutUpto f l.length l = l.map f := by simp [cutUpto]
theorem mixed : Tryd.prog.follows .mixedOrders = true := by kernel_rfl
@[go_sem] theorem cut_nil {m : Nat} {a : Option Addr} {z : Nat} : (if m = 0 then a else Option.map (fun x => x.add (0 * z)) a) = a := by
  split
  · rfl
  · cases a <;> simp [Addr.add]

set_option maxHeartbeats 2000000 in
theorem small_spec {E : World} {s : SH} {L : List HP} {w : World} {v : Value} {xs : List Txn} (H : Holds E s L w) (hv : kT.Sl s v xs) :
    Calls Tryd.prog 47 #[v] w fun e w' => ∃ v' s', e = .returned v' ∧ Sub s s' ∧ Holds E s' (kT.Osl v' (small xs) :: L) w' := by
  have hv0 := hv
  obtain ⟨A, cap, rfl, h1, h2, -⟩ := hv
  have h2' : xs.length * 56 ≤ 140737488355328 := h2
  clear h2
  obtain ⟨m, hm⟩ : ∃ m, m = min 40 xs.length := ⟨_, rfl⟩
  have hmin : (if (40 : Int) < (xs.length : Int) then (40 : Int) else (xs.length : Int)) = (m : Int) := by split <;> omega
  have hmx : m ≤ xs.length := by omega
  have hmc : m ≤ cap := by omega
  have hsl := hv0.take m hmx
  have htake : xs.take m = xs.take 40 := by rw [List.take_eq_take_iff]; omega
  rw [htake] at hsl
  have hlen : (xs.take 40).length = m := by rw [List.length_take]; omega
  have HT := Lib.hid htake
  clear htake hm
  go_enter Tryd.func47, Tryd.ntmps47
  go_wp2_with (go_at_call 53; refine (txns_spec H hsl).mono ?_; rintro e w1 ⟨v1, rfl, H⟩; obtain ⟨B, capB, hv1, hb1, -, -⟩ := H.len; subst hv1)
  rw [hlen] at hb1
  go_loopw [15] (fun i wr => ∃ k : Nat, k ≤ m ∧ i = .int .i64 k ∧ ∃ s', Sub s s' ∧ Holds E s' (kT.Osl (.slice B m capB) (cutUpto cutT k (xs.take 40)) :: L) wr) (fun i _ => m - (intOf i).toNat)
  case atStart => exact ⟨0, Nat.zero_le _, rfl, s, Sub.refl s, by rw [cutUpto_zero]; rw [hlen] at H; exact H⟩
  case round =>
    clear H
    obtain ⟨k, hk, rfl, s1, hs1, H⟩ := hrel
    by_cases hlt : k < m
    · have hk1 : k < (cutUpto cutT k (xs.take 40)).length := by rw [cutUpto_len, hlen]; exact hlt
      have hk2 : k < (xs.take 40).length := by rw [hlen]; exact hlt
      have hgk : (cutUpto cutT k (xs.take 40))[k] = (xs.take 40)[k] := cutUpto_get _ _ _ hk2
      obtain ⟨b, cap2, cur, c, R, hv1, hcs, hcz, H2, hcell, hcl, hput, hset⟩ := Kin.Osl.focus_set H k hk1
      rw [cutUpto_len, hlen] at hv1
      cases hv1
      obtain ⟨v2, ⟨rfl, hr1, hr2, hr3, hr4⟩, H3⟩ := kT_openM H2.swap
      clear H H2
      generalize hx : (cutUpto cutT k (xs.take 40))[k] = x at *
      obtain ⟨A2, c2, rfl, hl2, hby2, -⟩ := H3.len
      obtain ⟨n2, hn2⟩ : ∃ n2, n2 = min 10 x.ops.length := ⟨_, rfl⟩
      have hmin2 : (if (10 : Int) < (x.ops.length : Int) then (10 : Int) else (x.ops.length : Int)) = (n2 : Int) := by split <;> omega
      have hn2x : n2 ≤ x.ops.length := by omega
      have hn2c : n2 ≤ c2 := by omega
      have hu4 : cur[k * 5 + 4]? = some (.slice A2 x.ops.length c2) := hcell 4 _ rfl
      have hcz5 : k * 5 + 5 ≤ cur.size := hcz
      have hu4' : (cur.setIfInBounds (k * 5 + 4) (.slice A2 n2 c2))[k * 5 + 4]? = some (.slice A2 n2 c2) := by rw [Array.getElem?_setIfInBounds, if_pos rfl, if_pos (by omega)]
      have HN := Lib.hid hn2
      have HX := Lib.hid hx
      have HG := Lib.hid hgk
      clear hn2 hx hgk
      have H := (Kin.Osl.take n2 hn2x H3).swap
      clear H3
      have hlen2 : (x.ops.take n2).length = n2 := by rw [List.length_take, Nat.min_eq_left hn2x]
      go_wp2_with fail
      refine wp_draw_ob (k := 15) (sz := 68) mixed (by simp) rfl (by kernel_rfl) (by kernel_rfl) H (by simp only [List.take_succ_cons, List.take_zero]; exact rfl) (by simp only [List.drop_succ_cons, List.drop_zero]; exact rfl)
        (fun y => by simp only [ov, Act.put, List.setIfInBounds_toArray, List.set_cons_succ, List.set_cons_zero]; exact rfl) ?_
      iterate 15 (apply Ob.val; (intro s' w' y Φ hs H hG hΦ; simp [dh, isV, dep, Region.binds] at hG; (try simp only [hG]); refine wantG rfl ?_; first | (refine G_p1 _ _ rfl (Tryd.isAgg71 _) rfl H hu4 ?_; exact hΦ) | (go_simp; exact hΦ)))
      clear H
      intro s2 w2 y hs2 H hG
      simp [gh, isV] at hG
      simp only [hG]
      clear hG
      go_wp2_with (first
        | ((with_reducible refine OpG.list rfl ?_); first
          | (refine G_set1 (v := Value.slice A2 n2 c2) _ _ _ rfl (Tryd.sizeOf71 _) rfl rfl rfl H (by omega) ?_; clear H; intro w3 H)
          | (refine G_p1 _ _ rfl (Tryd.isAgg71 _) rfl H hu4' ?_)))
      go_loopw [41] (fun i wr => ∃ j : Nat, j ≤ n2 ∧ i = .int .i64 j ∧ ∃ s', Sub s s' ∧ Holds E s' (pt b (.cells (cur.setIfInBounds (k * 5 + 4) (.slice A2 n2 c2)) kT.e (0, 0)) :: kOp.Osl (.slice A2 n2 c2) (cutUpto cutO j (x.ops.take n2)) :: R :: L) wr) (fun i _ => n2 - (intOf i).toNat)
      case atStart => exact ⟨0, Nat.zero_le _, rfl, s2, hs1.trans hs2, by rw [cutUpto_zero]; exact H⟩
      case round =>
        clear H
        obtain ⟨j, hj, rfl, s3, hs3, H⟩ := hrel
        by_cases hlt2 : j < n2
        · have hj1 : j < (cutUpto cutO j (x.ops.take n2)).length := by rw [cutUpto_len, hlen2]; exact hlt2
          have hj2 : j < (x.ops.take n2).length := by rw [hlen2]; exact hlt2
          have hgj : (cutUpto cutO j (x.ops.take n2))[j] = (x.ops.take n2)[j] := cutUpto_get _ _ _ hj2
          obtain ⟨b2, cap3, cur2, c3, R2, hv2, hcs2, hcz2, H4, hcell2, hcl2, hput2, hset2⟩ := Kin.Osl.focus_set H.swap j hj1
          rw [cutUpto_len, hlen2] at hv2
          cases hv2
          obtain ⟨v5, ⟨rfl, hq1, hq2, hq3⟩, H5⟩ := kOp_openM H4.swap
          clear H H4
          generalize hz : (cutUpto cutO j (x.ops.take n2))[j] = z at *
          obtain ⟨A5, c5, rfl, hl5, hby5, -⟩ := H5.len
          obtain ⟨n5, hn5⟩ : ∃ n5, n5 = min 40 z.list.length := ⟨_, rfl⟩
          have hmin5 : (if (40 : Int) < (z.list.length : Int) then (40 : Int) else (z.list.length : Int)) = (n5 : Int) := by split <;> omega
          have hn5x : n5 ≤ z.list.length := by omega
          have hn5c : n5 ≤ c5 := by omega
          have hw3 : cur2[j * 6 + 3]? = some (.slice A5 z.list.length c5) := hcell2 3 _ rfl
          have hcz6 : j * 6 + 6 ≤ cur2.size := hcz2
          have HN5 := Lib.hid hn5
          have HZ := Lib.hid hz
          have HGJ := Lib.hid hgj
          clear hn5 hz hgj
          have H := (Kin.Osl.take n5 hn5x H5).swap
          clear H5
          go_wp2_with (first
            | ((with_reducible refine OpG.list rfl ?_); (refine G_p1i 3 _ _ rfl (Tryd.isAgg71 _) rfl H rfl hu4' ?_)))
          refine wp_draw_ob (k := 12) (sz := 68) mixed (by simp) rfl (by kernel_rfl) (by kernel_rfl) H (by simp only [List.take_succ_cons, List.take_zero]; exact rfl) (by simp only [List.drop_succ_cons, List.drop_zero]; exact rfl)
            (fun y => by simp only [ov, Act.put, List.setIfInBounds_toArray, List.set_cons_succ, List.set_cons_zero]; exact rfl) ?_
          iterate 12 (apply Ob.val; (intro s' w' y Φ hs H hG hΦ; simp [dh, isV, dep, Region.binds] at hG; (try simp only [hG]); refine wantG rfl ?_; first | (refine G_p1 _ _ rfl (Tryd.isAgg27 _) rfl H hw3 ?_; exact hΦ) | (go_simp; exact hΦ)))
          clear H
          intro s4 w4 y hs4 H hG
          simp [gh, isV] at hG
          simp only [hG]
          clear hG
          go_wp2_with (first
            | ((with_reducible refine OpG.list rfl ?_); (refine G_set1 (v := Value.slice A5 n5 c5) _ _ _ rfl (Tryd.sizeOf27 _) rfl rfl rfl H (by omega) ?_; clear H; intro w5 H)))
          go_roundw
          case rel =>
            refine ⟨j + 1, by omega, by go_num, s4, hs3.trans hs4, ?_⟩
            have e1 := hset2 s4 (pt b (.cells (cur.setIfInBounds (k * 5 + 4) (.slice (some ⟨b2, 0, none⟩) n2 c2)) kT.e (0, 0)) :: R :: L) w5 (cutO z) 3 (.slice A5 n5 c5) (by decide) ?_
            · rw [← cutUpto_set _ _ _ hj2, ← HGJ.out]; exact e1.swap
            · have e2 : z.list.take n5 = (cutO z).list := by
                have := HN5.out
                show _ = z.list.take 40
                rw [List.take_eq_take_iff]; omega
              rw [e2] at H
              exact (kOp_mkM (x := cutO z) H.swap hq1 hq2 hq3).swap
          case measure => simp [intOf]; omega
        · obtain rfl : j = n2 := by omega
          clear hlt2
          go_wp2
          go_roundw
          case rel =>
            refine ⟨k + 1, by omega, by go_num, s3, hs3, ?_⟩
            have e1 := hset s3 L wr (cutT x) 4 (.slice A2 j c2) (by decide) ?_
            · rw [← cutUpto_set _ _ _ hk2, ← HG.out]; exact e1
            · have e2 : cutUpto cutO j (x.ops.take j) = (cutT x).ops := by
                have := cutUpto_all cutO (x.ops.take j)
                rw [hlen2] at this
                rw [this]
                have e3 : x.ops.take j = x.ops.take 10 := by have := HN.out; rw [List.take_eq_take_iff]; omega
                rw [e3]; rfl
              rw [e2] at H
              exact (kT_mkM (x := cutT x) H.swap hr1 hr2 hr3 hr4).swap
          case measure => simp [intOf]; omega
    · obtain rfl : k = m := by omega
      clear hlt
      go_wp2
      go_ret
      refine ⟨_, s1, rfl, hs1, ?_⟩
      have e := cutUpto_all cutT (xs.take 40)
      rw [hlen] at e
      rw [e] at H
      exact H
end Go.Proofs.YtemdmpgekegfhaaDoor
