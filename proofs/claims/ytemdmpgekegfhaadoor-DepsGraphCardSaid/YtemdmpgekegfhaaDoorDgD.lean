/- Equal lists of edges are told to be so; keys of two numbers. -/
import Derived.Test.YtemdmpgekegfhaaDoorDgC
import Derived.Test.YtemdmpgekegfhaaDoorMapE
import Derived.DeepKeys4
namespace Go.Proofs.YtemdmpgekegfhaaDoor
open Go.RowKit
set_option linter.all false
set_option maxRecDepth 10000

set_option maxHeartbeats 1000000 in
theorem kEd_neq0 (w : World) (x : Ed) : (binOp .neq 37 (.agg #[.int .i64 x.from_, .int .i64 x.to, .int .i64 x.label]) (.agg #[.int .i64 x.from_, .int .i64 x.to, .int .i64 x.label])).run Tryd.prog w = .ok (.bool false) w := by
  obtain ⟨a0, a1, a2⟩ := x
  go_simp
theorem kEd_eg (w : World) {op : BinOp} {x y : Operand} {u v : Array Value} : (eqGuard op 37 x y (.agg u) (.agg v)).run Tryd.prog w = .ok () w := run_eqGuard_agg w op _ x y u v (by kernel_rfl)
set_option maxHeartbeats 4000000 in
theorem eqEdsD {E : World} {s : SH} {L : List HP} {w : World} {v v' : Value} {xs : List Ed} (hv : kEd.Sl s v xs) (hv' : kEd.Sl s v' xs) (H : Holds E s L w) :
    Calls Tryd.prog 28 #[v, v'] w fun e w' => e = .returned (.bool true) ∧ Holds E s L w' := by
  have hv0 := hv
  have hv0' := hv'
  obtain ⟨A, cap, rfl, h1, h2, -⟩ := hv
  obtain ⟨A', cap', rfl, h1', h2', -⟩ := hv'
  have hb : xs.length ≤ 140737488355328 := by have h : xs.length * 24 ≤ 140737488355328 := h2; omega
  clear h2 h2'
  go_enter Tryd.func28, Tryd.ntmps28
  go_wp2
  go_loopw [13] (fun i wr => ∃ k : Nat, k ≤ xs.length ∧ i = .int .i64 k ∧ Holds E s L wr) (fun i _ => xs.length - (intOf i).toNat)
  case atStart => exact ⟨0, Nat.zero_le _, rfl, H⟩
  case round =>
    clear H
    obtain ⟨k, hk, rfl, H⟩ := hrel
    by_cases hlt : k < xs.length
    · obtain ⟨b, off, c, rfl, hK, hC⟩ := hv0.elem k hlt
      obtain ⟨b', off', c', rfl, hK', hC'⟩ := hv0'.elem k hlt
      obtain ⟨rfl, -⟩ := kEd_op hK
      obtain ⟨rfl, -⟩ := kEd_op hK'
      rw [show kEd.sz = 3 from rfl] at hC
      rw [show kEd.sz = 3 from rfl] at hC'
      clear hK hK'
      generalize xs[k] = x at *
      go_wp2_with fail
      refine wp_draw_ob (k := 9) (sz := 26) mixed (by simp) rfl (by kernel_rfl) (by kernel_rfl) H (by simp only [List.take_succ_cons, List.take_zero]; exact rfl) (by simp only [List.drop_succ_cons, List.drop_zero]; exact rfl)
        (fun y => by simp only [ov, Act.put, List.setIfInBounds_toArray, List.set_cons_succ, List.set_cons_zero]; exact rfl) ?_
      iterate 9 (apply Ob.valw; (intro s' w' y Φ hs H hG hΦ; simp [dh, isV, dep, Region.binds] at hG; (try simp only [hG]); first
        | (refine wantN rfl ?_; exact hΦ _ _ (Sub.refl _) H)
        | (refine wantY rfl ?_; first
          | (refine G_sN _ _ rfl (Tryd.isAgg37 _) rfl H (hC.mono hs) (Tryd.sizeOf37 _) ?_; exact hΦ _ _ (Sub.refl _) H)
          | (refine G_sN _ _ rfl (Tryd.isAgg37 _) rfl H (hC'.mono hs) (Tryd.sizeOf37 _) ?_; exact hΦ _ _ (Sub.refl _) H)
          | (refine O_bin rfl rfl rfl (kEd_eg _) (kEd_neq0 _ x) ?_; exact hΦ _ _ (Sub.refl _) H)
          | (go_simp; exact hΦ _ _ (Sub.refl _) H))))
      clear H
      intro s3 w3 yy hs3 H hG
      simp [gh, isV] at hG
      simp only [hG]
      clear hG
      go_wp2
      go_roundw
      case rel => exact ⟨k + 1, by omega, by go_num, H.forget hs3⟩
      case measure => simp [intOf]; omega
    · go_wp2
      go_ret
      exact ⟨rfl, H⟩
/-! ### keys of two numbers -/
def kc2 : KC (Int × Int) := ⟨fun p => .agg #[.int .i64 p.1, .int .i64 p.2], fun p => Kin.inI64 p.1 ∧ Kin.inI64 p.2⟩
theorem two_laid : laidOutB Tryd.prog = true := by kernel_rfl
theorem two_lits (a b : Int) (ha : Kin.inI64 a) (hb : Kin.inI64 b) : Tryd.prog.keyLits (Tryd.prog.types.size + 1) 51 [.int .i64 a, .int .i64 b] = some [.int .i64 a, .int .i64 b] := by
  have h0 : 0 < Tryd.prog.types.size := of_decide_eq_true (by kernel_rfl)
  obtain ⟨m, hm⟩ : ∃ m, Tryd.prog.types.size = m + 1 := ⟨Tryd.prog.types.size - 1, by omega⟩
  rw [hm]
  have hi : ∀ n : Int, Kin.inI64 n → Tryd.prog.keyLits (m + 1) 3 [.int .i64 n] = some [.int .i64 n] := fun n hn => by
    unfold Program.keyLits
    rw [Tryd.underlying3]
    refine if_pos ⟨rfl, ?_⟩
    unfold Kin.inI64 at hn
    simp only [Lit.wf, IntKind.min, IntKind.max, IntKind.signed, IntKind.bits, Bool.and_eq_true, decide_eq_true_eq, if_true]
    omega
  have hc : Tryd.prog.cellsOf 51 = 2 := by kernel_rfl
  have h1 : Tryd.prog.cellsOf 3 = 1 := by kernel_rfl
  unfold Program.keyLits
  rw [Tryd.underlying51]
  simp only []
  rw [if_pos (by rw [hc]; rfl)]
  simp only [h1, List.range, List.range.loop, List.mapM_cons, List.mapM_nil, Nat.zero_mul, Nat.one_mul, List.drop_zero, List.drop_succ_cons, List.take_succ_cons, List.take_zero, hi a ha, hi b hb]
  rfl
theorem mk_2 : MK Tryd.prog 51 kc2.enc kc2.ok where
  K := Maps.Keyed.of_law (deep_law_laid two_laid (m := 3) (by omega) (of_decide_eq_true (by kernel_rfl)) (by kernel_rfl) (by rw [Tryd.underlying51]))
  lit := fun a ha => by
    refine ⟨.string (keyBytes [.int .i64 a.1, .int .i64 a.2]), ?_⟩
    unfold keyOf
    rw [Tryd.underlying51]
    have hk : Tryd.prog.keyType 51 = true := by kernel_rfl
    have hf : Value.formed Tryd.prog 51 (kc2.enc a) = true := by kernel_rfl
    simp only [hk, hf, Bool.and_self, if_true]
    show ((Tryd.prog.keyLits (Tryd.prog.types.size + 1) 51 [.int .i64 a.1, .int .i64 a.2]).map fun ls => Lit.string (keyBytes ls)) = _
    rw [two_lits _ _ ha.1 ha.2]; rfl
  inj := fun a b _ _ h => by
    cases a; cases b
    simp only [kc2, Value.agg.injEq, Array.mk.injEq, List.cons.injEq, Value.int.injEq, true_and, and_true] at h
    obtain ⟨rfl, rfl⟩ := h; rfl
end Go.Proofs.YtemdmpgekegfhaaDoor
