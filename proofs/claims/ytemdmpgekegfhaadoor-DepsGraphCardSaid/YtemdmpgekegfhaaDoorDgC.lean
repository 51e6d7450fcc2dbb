/- The edges of both graphs, exactly. -/
import Derived.Test.YtemdmpgekegfhaaDoorLx1
import Derived.Test.YtemdmpgekegfhaaDoorDgA
namespace Go.Proofs.YtemdmpgekegfhaaDoor
open Go.RowKit
set_option linter.all false
set_option maxRecDepth 10000

def edR (M : Nat → Nat → Nat) (u t : Nat) : List Ed := ((List.range t).filter fun v => decide (M u v ≠ 0)).map fun v : Nat => (⟨(u : Int), (v : Int), ((M u v : Nat) : Int)⟩ : Ed)
def edK (n : Nat) (M : Nat → Nat → Nat) (k : Nat) : List Ed := (List.range k).flatMap fun u => edR M u n
theorem edR_yes {M : Nat → Nat → Nat} {u t : Nat} (h : M u t ≠ 0) : edR M u (t + 1) = edR M u t ++ [(⟨(u : Int), (t : Int), ((M u t : Nat) : Int)⟩ : Ed)] := by
  unfold edR; rw [List.range_succ, List.filter_append, List.map_append]; simp [h]
theorem edR_no {M : Nat → Nat → Nat} {u t : Nat} (h : M u t = 0) : edR M u (t + 1) = edR M u t := by
  unfold edR; rw [List.range_succ, List.filter_append, List.map_append]; simp [h]
theorem edR_len (M : Nat → Nat → Nat) (u t : Nat) : (edR M u t).length ≤ t := by
  unfold edR; rw [List.length_map]; exact Nat.le_trans (List.length_filter_le _ _) (by simp)
theorem edK_succ (n : Nat) (M : Nat → Nat → Nat) (k : Nat) : edK n M (k + 1) = edK n M k ++ edR M k n := by
  unfold edK; rw [List.range_succ, List.flatMap_append]; simp
theorem edK_len (n : Nat) (M : Nat → Nat → Nat) : ∀ k, (edK n M k).length ≤ k * n
  | 0 => by simp [edK]
  | k + 1 => by
    rw [edK_succ, List.length_append, Nat.succ_mul]
    have := edK_len n M k
    have := edR_len M k n
    omega
set_option maxHeartbeats 2000000 in
theorem xedges_x {E : World} {s : SH} {L : List HP} {w : World} {b n : Nat} {M : Nat → Nat → Nat} (hn : n ≤ 300) (H : Holds E s L w) (hX : Xr s b n M) (hM : ∀ u v, M u v < 16) :
    Calls Tryd.prog 21 #[.pointer (some ⟨b, 0, none⟩)] w fun e w' => ∃ v, e = .returned v ∧ Holds E s (kEd.Osl v (edK n M n) :: L) w' := by
  have HM := Lib.hid hM
  clear hM
  obtain ⟨A, c, c0⟩ := hX.len H
  obtain ⟨bs, hXs, hr⟩ := hX
  have HRW := Lib.hid hr
  clear hr
  have H2 : Holds E s (kEd.Osl (.slice none 0 0) [] :: L) w := Kin.Osl.nil H
  clear H
  go_enter Tryd.func21, Tryd.ntmps21
  go_wp2
  go_loopw [12, 3] (fun i v wr => ∃ (u : Nat) (l : List Ed), u ≤ n ∧ i = .int .i64 u ∧ RowKit.Hid (l = edK n M u) ∧ Holds E s (kEd.Osl v l :: L) wr) (fun i _ _ => n - (intOf i).toNat)
  case atStart => exact ⟨0, [], Nat.zero_le _, rfl, Lib.hid rfl, H2⟩
  case round =>
    clear H2 c0
    obtain ⟨u, l, hu, rfl, hll, H3⟩ := hrel
    obtain ⟨A3, k3, rfl, -, -, -⟩ := H3.len
    by_cases hlt : u < n
    · obtain ⟨blk, off, c, hb, hC⟩ := hXs.elem hlt
      have c0 : wr.cell? ⟨b, 0, none⟩ = some (.slice (some ⟨blk, off, none⟩) n c) := by have := gr_c H3 hb 0; simpa using this
      have c1 : wr.cell? ⟨blk, off + u, none⟩ = some (.slice (some ⟨bs u, 0, none⟩) n n) := by have := Cells.cell H3 hC 0 _ rfl; simpa [Addr.add] using this
      have hdec : decide ((u : Int) < (n : Int)) = true := by simp; omega
      go_wp2
      have H4 : Holds E s (kEd.Osl (.slice A3 l.length k3) l :: L) wr := H3
      clear H3 c0 c1
      go_loopw [23, 3] (fun j v wr2 => ∃ (t : Nat) (l2 : List Ed), t ≤ n ∧ j = .int .i64 t ∧ RowKit.Hid (l2 = edK n M u ++ edR M u t) ∧ Holds E s (kEd.Osl v l2 :: L) wr2) (fun j _ _ => n - (intOf j).toNat)
      case atStart => exact ⟨0, l, Nat.zero_le _, rfl, Lib.hid (by rw [hll.out]; simp [edR]), H4⟩
      case round =>
        clear H4 hll
        obtain ⟨t, l2, ht, rfl, hll, H5⟩ := hrel
        obtain ⟨A4, k4, rfl, -, -, -⟩ := H5.len
        by_cases hlt2 : t < n
        · have c5 : wr.cell? ⟨bs u, t, none⟩ = some (.int .i64 (M u t : Nat)) := by
            have := H5.at_s (HRW.out u hlt); simp only [World.cell?, this]; exact rowI_get _ hlt2
          have hm := HM.out u t
          have hyes := Lib.hid (fun h => edR_yes (M := M) (u := u) (t := t) h)
          have hno := Lib.hid (fun h => edR_no (M := M) (u := u) (t := t) h)
          have hroom : (l2.length + 1) * 24 ≤ 140737488355328 := by
            rw [hll.out, List.length_append]
            have h1 := edK_len n M u
            have h2 := edR_len M u t
            have : u * n ≤ 300 * 300 := Nat.mul_le_mul (by omega) (by omega)
            omega
          generalize M u t = m at c5 hm hyes hno
          by_cases hz : m = 0
          · subst hz
            go_wp2
            go_roundw
            case rel => exact ⟨t + 1, l2, by omega, by go_num, Lib.hid (by rw [hll.out, show edR M u (t + 1) = edR M u t by first | exact hno.out rfl | exact hno.out trivial]), H5⟩
            case measure => simp [intOf]; omega
          · have hmz : ((m : Int) != 0) = true := by simp; omega
            have HRO := Lib.hid hroom
            have HZ := Lib.hid hz
            clear hroom hz
            go_wp2_with ((with_reducible refine OpG.list rfl ?_); first
              | (refine G_slice1 (v := Value.agg _) rfl rfl Tryd.underlying22 Tryd.sizeOf37 Tryd.zeroValue37 rfl rfl (by decide) (by decide) H5 ?_; clear H5 c5; intro g2 w4 H5; replace H5 := (kEd_mkM (⟨(u : Int), (t : Int), (m : Int)⟩ : Ed) (by constructor <;> simp <;> omega) (by constructor <;> simp <;> omega) (by constructor <;> simp <;> omega) H5).rot3)
              | (refine G_append1 kEd_at _ _ rfl H5 rfl rfl HRO.out ?_; clear H5; intro v5 w5 H5))
            refine ⟨⟨t + 1, _, by omega, rfl, Lib.hid (by rw [hll.out, hyes.out HZ.out, List.append_assoc]), H5⟩, ?_⟩
            simp only [intOf]; omega
        · have htn : t = n := by omega
          have hll3 : RowKit.Hid (l2 = edK n M (u + 1)) := Lib.hid (by rw [hll.out, edK_succ, htn])
          subst htn
          go_wp2
          refine ⟨⟨u + 1, l2, by omega, rfl, hll3, H5⟩, ?_⟩
          simp only [intOf]; omega
    · have hun : u = n := by omega
      have hfin : l = edK n M n := by have h := hll.out; rw [hun] at h; exact h
      subst hun
      go_wp2
      refine ret1 rfl (rv_tmp rfl) rfl ⟨_, rfl, ?_⟩
      rw [← hfin]; exact H3
theorem edgE_all {M : Nat → Nat → Nat} (hM : ∀ u v, M u v < 16) (u v : Nat) : edgE M 15 u v = decide (M u v ≠ 0) := by
  have h := hM u v
  unfold edgE
  generalize M u v = m at h
  have l0 : lb 15 0 = true := by decide
  have l1 : lb 15 1 = true := by decide
  have l2 : lb 15 2 = true := by decide
  have l3 : lb 15 3 = true := by decide
  have : ∀ m : Fin 16, ((List.range 4).any fun i => lb 15 i && m.val.testBit i) = decide (m.val ≠ 0) := by
    intro m
    have e : (List.range 4) = [0, 1, 2, 3] := rfl
    rw [e]
    simp only [List.any_cons, List.any_nil, l0, l1, l2, l3, Bool.true_and]
    revert m; decide
  exact this ⟨m, h⟩
theorem out_map {n : Nat} {F : Nat → Nat} {M : Nat → Nat → Nat} (hR : Rel n F M) {u : Nat} (hu : u < n) : (bitsL (orK n F u 15 4) n).map (fun z => (⟨(u : Int), z, ((M u z.toNat : Nat) : Int)⟩ : Ed)) = edR M u n := by
  unfold bitsL edR
  rw [List.map_map]
  have e : (List.range n).filter (fun j => (orK n F u 15 4).testBit j) = (List.range n).filter fun v => decide (M u v ≠ 0) := by
    apply List.filter_congr
    intro v hv
    rw [hR.edge 15 hu (List.mem_range.1 hv), edgE_all hR.lab]
  rw [e]
  apply List.map_congr_left
  intro v _
  simp
set_option maxHeartbeats 2000000 in
theorem gedges_x {E : World} {s : SH} {L : List HP} {w : World} {a n : Nat} {F : Nat → Nat} {M : Nat → Nat → Nat} (hn : n ≤ 300) (H : Holds E s L w) (hG : Gr s a n F) (hT : Tz s) (hR : Rel n F M) :
    Calls Tryd.prog 27 #[.pointer (some ⟨a, 0, none⟩)] w fun e w' => ∃ v s', e = .returned v ∧ Sub s s' ∧ Holds E s' (kEd.Osl v (edK n M n) :: L) w' := by
  have HR := Lib.hid hR
  clear hR
  have hN := nodes_c (w := w) (a := a) (n := n) (by obtain ⟨W, ⟨R0, R1, R2, R3, hg, -⟩, -⟩ := hG; have := gr_c H hg 0; simpa using this)
  have H2 : Holds E s (kEd.Osl (.slice none 0 0) [] :: L) w := Kin.Osl.nil H
  clear H
  go_enter Tryd.func27, Tryd.ntmps27
  go_wp2_with (go_at_call 29; refine hN.mono ?_; clear hN; rintro e w' ⟨rfl, rfl⟩)
  go_loopw [9, 3] (fun i v wr => ∃ (u : Nat) (l : List Ed) (s1 : SH), u ≤ n ∧ i = .int .i64 u ∧ Sub s s1 ∧ RowKit.Hid (l = edK n M u) ∧ Holds E s1 (kEd.Osl v l :: L) wr) (fun i _ _ => n - (intOf i).toNat)
  case atStart => exact ⟨0, [], s, Nat.zero_le _, rfl, Sub.refl s, Lib.hid rfl, H2⟩
  case round =>
    clear H2
    obtain ⟨u, l, s1, hu, rfl, hs1, hll, H3⟩ := hrel
    obtain ⟨A3, k3, rfl, -, -, -⟩ := H3.len
    by_cases hlt : u < n
    · have hdec : decide ((u : Int) < (n : Int)) = true := by simp; omega
      go_wp2_with (go_at_call 64; refine (out_c hn hlt H3 (hG.mono hs1) (hT.mono hs1) HR.out.lt).mono ?_; clear H3; rintro e w' ⟨vo, s2, rfl, hs2, H4⟩; obtain ⟨A2, cap2, rfl, -, -, -⟩ := H4.len; obtain ⟨s3, hs3, H5, hSl⟩ := Kin.Osl.fr H4; clear H4)
      have hmp := Lib.hid (out_map HR.out hlt)
      have hmem := Lib.hid (fun z hz => bitsL_mem (X := orK n F u 15 4) (n := n) (z := z) hz)
      have hol := bitsL_len (orK n F u 15 4) n
      generalize bitsL (orK n F u 15 4) n = ol at hSl hmp hmem hol ⊢
      go_loopw [16, 3] (fun j v wr2 => ∃ (t : Nat) (l2 : List Ed), t ≤ ol.length ∧ j = .int .i64 t ∧ RowKit.Hid (l2 = edK n M u ++ (ol.take t).map (fun z => (⟨(u : Int), z, ((M u z.toNat : Nat) : Int)⟩ : Ed))) ∧ Holds E s3 (kEd.Osl v l2 :: L) wr2) (fun j _ _ => ol.length - (intOf j).toNat)
      case atStart => exact ⟨0, l, Nat.zero_le _, rfl, Lib.hid (by rw [hll.out]; simp), H5⟩
      case round =>
        clear H5
        obtain ⟨t, l2, ht, rfl, hl2, H6⟩ := hrel
        obtain ⟨A4, k4, rfl, -, -, -⟩ := H6.len
        by_cases hlt2 : t < ol.length
        · obtain ⟨blk, off, cs, rfl, hK, hC⟩ := hSl.elem t hlt2
          obtain ⟨rfl, -⟩ := hK
          obtain ⟨q, hq, hqn, -⟩ := hmem.out _ (List.getElem_mem hlt2)
          have cE : wr.cell? ⟨blk, off + t, none⟩ = some (.int .i64 (q : Int)) := by
            have := Cells.cell H6 hC 0 _ rfl
            rw [hq] at this
            simpa [Addr.add, show kI.sz = 1 from rfl] using this
          have hlab := glabels_c hn hlt hqn H6 (((hG.mono hs1).mono hs2).mono hs3) HR.out
          have hm := HR.out.lab u q
          have hroom : (l2.length + 1) * 24 ≤ 140737488355328 := by
            rw [hl2.out, List.length_append, List.length_map, List.length_take]
            have h1 := edK_len n M u
            have : u * n ≤ 300 * 300 := Nat.mul_le_mul (by omega) (by omega)
            omega
          have HRO := Lib.hid hroom
          have hnx : RowKit.Hid (l2 ++ [(⟨(u : Int), (q : Int), ((M u q : Nat) : Int)⟩ : Ed)] = edK n M u ++ (ol.take (t + 1)).map (fun z => (⟨(u : Int), z, ((M u z.toNat : Nat) : Int)⟩ : Ed))) := Lib.hid (by
            rw [hl2.out, List.take_succ_eq_append_getElem hlt2, List.map_append, List.append_assoc, hq]; simp)
          clear hroom hC
          generalize M u q = m at hlab hm hnx
          go_wp2_with (first
            | (go_at_call 67; refine hlab.mono ?_; clear H6 cE hlab; rintro e w' ⟨rfl, H6⟩)
            | ((with_reducible refine OpG.list rfl ?_); first
              | (refine G_slice1 (v := Value.agg _) rfl rfl Tryd.underlying22 Tryd.sizeOf37 Tryd.zeroValue37 rfl rfl (by decide) (by decide) H6 ?_; clear H6; intro g2 w4 H6; replace H6 := (kEd_mkM (⟨(u : Int), (q : Int), (m : Int)⟩ : Ed) (by constructor <;> simp <;> omega) (by constructor <;> simp <;> omega) (by constructor <;> simp <;> omega) H6).rot3)
              | (refine G_append1 kEd_at _ _ rfl H6 rfl rfl HRO.out ?_; clear H6; intro v5 w5 H6)))
          refine ⟨⟨t + 1, _, by omega, rfl, Lib.hid hnx.out, H6⟩, ?_⟩
          simp only [intOf]; omega
        · have htl : t = ol.length := by omega
          have hll3 : RowKit.Hid (l2 = edK n M (u + 1)) := Lib.hid (by rw [hl2.out, edK_succ, htl, List.take_length, hmp.out])
          subst htl
          go_wp2
          refine ⟨⟨u + 1, l2, s3, by omega, rfl, (hs1.trans hs2).trans hs3, hll3, H6⟩, ?_⟩
          simp only [intOf]; omega
    · have hun : u = n := by omega
      have hfin : l = edK n M n := by have h := hll.out; rw [hun] at h; exact h
      subst hun
      go_wp2
      refine ret1 rfl (rv_tmp rfl) rfl ⟨_, s1, rfl, hs1, ?_⟩
      rw [← hfin]; exact H3
end Go.Proofs.YtemdmpgekegfhaaDoor
