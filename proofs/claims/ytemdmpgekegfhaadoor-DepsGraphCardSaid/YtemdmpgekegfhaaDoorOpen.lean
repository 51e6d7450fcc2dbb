/- What a row hands in, as the program's data. -/
import Derived.Test.YtemdmpgekegfhaaDoorData
import Derived.ProofKit
import Derived.SizedLaws
import Derived.Deep.Slices
namespace Go.Proofs.YtemdmpgekegfhaaDoor
open Go.RowKit Go.ChangeShapes Go.WideShapes Go.ChangeAt
set_option linter.all false
set_option maxRecDepth 10000

def Opens {α : Type} (P : Program) (d : Kin α) (t : TypeId) : Prop :=
  ∀ (H : Type) (enc : TypeId × Value → H) (W : World) (fuel : Nat) (cs : List Value) (x : DataW H × List MemPlace), DataW.trod enc P W 0 (fun _ => true) true fuel t cs = some x →
    (∀ n ∈ x.1.weights P t, n ≤ reachBytes) → ∃ y, d.K (all W) y cs
theorem reach_eq : reachBytes = 140737488351232 := by decide
theorem opens_int {P : Program} {t e : TypeId} (ht : P.underlying t = some (.int .i64)) : Opens P (Kin.int e) t := by
  intro H enc W fuel cs x h _
  cases fuel with
  | zero => simp [DataW.trod] at h
  | succ n =>
    unfold DataW.trod at h
    rw [ht] at h
    split at h <;> first
      | (rename_i heq
         cases heq
         split at h
         · rename_i hh
           obtain ⟨rfl, hw⟩ := hh
           refine ⟨_, rfl, ?_⟩
           simp only [Lit.wf, IntKind.min, IntKind.max, IntKind.signed, IntKind.bits, Bool.and_eq_true, decide_eq_true_eq, if_true] at hw
           unfold Kin.inI64; omega
         · cases h)
      | (simp_all; done)
theorem opens_bool {P : Program} {t e : TypeId} (ht : P.underlying t = some .bool) : Opens P (Kin.bool e) t := by
  intro H enc W fuel cs x h _
  cases fuel with
  | zero => simp [DataW.trod] at h
  | succ n =>
    unfold DataW.trod at h
    rw [ht] at h
    split at h <;> first | (exact ⟨_, rfl, trivial⟩) | (simp_all; done)
theorem opens_str {P : Program} {t e : TypeId} (ht : P.underlying t = some .string) : Opens P (Kin.str e) t := by
  intro H enc W fuel cs x h hw
  cases fuel with
  | zero => simp [DataW.trod] at h
  | succ n =>
    unfold DataW.trod at h
    rw [ht] at h
    split at h <;> first
      | (rename_i s _
         split at h
         · cases h
           refine ⟨s, rfl, ?_⟩
           have := hw s.data.toList.length (by simp [DataW.weights])
           rw [reach_eq] at this
           simpa using this
         · cases h)
      | (simp_all; done)
theorem weightsAll_mem {H : Type} {P : Program} {e : TypeId} : ∀ {l : List (DataW H)} {d : DataW H}, d ∈ l → ∀ n ∈ d.weights P e, n ∈ DataW.weightsAll P e l
  | [], _, h, _, _ => by cases h
  | a :: l, d, h, n, hn => by
    simp only [DataW.weightsAll, List.mem_append]
    rcases List.mem_cons.1 h with rfl | h
    · exact .inl hn
    · exact .inr (weightsAll_mem h n hn)
theorem Kin.Row.of_get {α : Type} {d : Kin α} {s : SH} {l : List Value} {y : Nat → α} : ∀ (n : Nat), (∀ i, i < n → ∃ c, d.K s (y i) c ∧ ∀ j u, c[j]? = some u → l[i * d.sz + j]? = some u) → d.Row s ((List.range n).map y) (l.take (n * d.sz))
  | 0, _ => by simp [Kin.Row]
  | n + 1, h => by
    obtain ⟨c, hc, hg⟩ := h n (by omega)
    have h1 := Kin.Row.of_get n fun i hi => h i (by omega)
    have h2 := h1.append (Kin.Row.single hc)
    have e : l.take ((n + 1) * d.sz) = l.take (n * d.sz) ++ c := by
      have hcl := d.len hc
      apply List.ext_getElem?
      intro i
      have hlen : n * d.sz + d.sz ≤ l.length := by
        have hp := d.szpos
        have := hg (d.sz - 1) _ (List.getElem?_eq_getElem (by omega))
        have := (List.getElem?_eq_some_iff.1 this).1
        omega
      have hl1 : (l.take (n * d.sz)).length = n * d.sz := by rw [List.length_take]; omega
      rw [List.getElem?_take]
      by_cases h3 : i < n * d.sz
      · rw [if_pos (by rw [Nat.succ_mul]; omega), List.getElem?_append_left (by omega), List.getElem?_take, if_pos h3]
      · rw [List.getElem?_append_right (by omega), hl1]
        by_cases h4 : i < (n + 1) * d.sz
        · rw [if_pos h4]
          rw [Nat.succ_mul] at h4
          have h5 : i - n * d.sz < c.length := by omega
          have := hg (i - n * d.sz) _ (List.getElem?_eq_getElem h5)
          rw [List.getElem?_eq_getElem h5, ← this]; congr 1; omega
        · rw [if_neg h4, List.getElem?_eq_none]
          rw [Nat.succ_mul] at h4; omega
    rw [e, List.range_succ, List.map_append]
    exact h2
theorem cells_get {w : World} {a : Addr} {n : Nat} {cs : List Value} (h : w.cells? 0 a n = some cs) : cs.length = n ∧ ∀ i, i < n → w.cell? (a.add i) = cs[i]? := by
  unfold World.cells? at h
  rw [if_pos (Nat.zero_le _)] at h
  refine ⟨by rw [mapM_some_length h]; simp, fun i hi => ?_⟩
  exact mapM_some_get h i i (by simp [hi])
theorem opens_slice {α : Type} {P : Program} {d : Kin α} {t e e' : TypeId} (ht : P.underlying t = some (.slice e)) (hc : P.cellsOf e = d.sz) (hb : P.bytesOf e = d.by_) (hd : Opens P d e) : Opens P (Kin.slice d e') t := by
  intro H enc W fuel cs x h hw
  rcases Go.Deep.open_slice ht h with ⟨rfl, rfl⟩ | ⟨a, len, cap, m, n, D, Pl, rfl, -, hl, hm, hmm, rfl, hx⟩
  · exact ⟨[], _, rfl, Kin.Sl.nil⟩
  · simp only [if_true] at hmm
    obtain rfl : cap = m := hmm.symm
    rw [hc] at hx
    simp only [DataW.weights, ht] at hw
    have hby : cap * d.by_ ≤ 140737488351232 := by
      have := hw _ List.mem_cons_self
      rw [reach_eq, hb, List.length_map, List.length_map, List.length_range, List.length_range] at this
      have e1 : len + (cap - len) = cap := by omega
      rwa [e1] at this
    have hel : ∀ i, i < len → ∃ y : α, ∃ c, W.cells? 0 (a.add (i * d.sz)) d.sz = some c ∧ d.K (all W) y c := fun i hi => by
      obtain ⟨c, h1, h2⟩ := hx i (by omega)
      obtain ⟨y, hy⟩ := hd H enc W n c (D i, Pl i) h2 fun q hq => hw q (List.mem_cons_of_mem _ (List.mem_append_left _ (weightsAll_mem (List.mem_map.2 ⟨i, List.mem_range.2 hi, rfl⟩) q hq)))
      exact ⟨y, c, h1, hy⟩
    by_cases h0 : len = 0
    · subst h0
      exact ⟨[], _, rfl, some a, cap, rfl, Nat.zero_le _, by simp, fun h => absurd rfl h⟩
    · have hy0 := (hel 0 (by omega)).choose
      let y : Nat → α := fun i => if hi : i < len then (hel i hi).choose else hy0
      have hy : ∀ i, i < len → ∃ c, W.cells? 0 (a.add (i * d.sz)) d.sz = some c ∧ d.K (all W) (y i) c := fun i hi => by
        have := (hel i hi).choose_spec
        simp only [y, dif_pos hi]; exact this
      obtain ⟨c0, hc0, _⟩ := hy 0 (by omega)
      have hcell0 := (cells_get hc0).2 0 d.szpos
      have hlen0 := (cells_get hc0).1
      have ha0 : (a.add (0 * d.sz)).add 0 = a := by simp [Addr.add]
      rw [ha0, List.getElem?_eq_getElem (by rw [hlen0]; exact d.szpos)] at hcell0
      obtain ⟨b, off, spot⟩ := a
      have hsp : spot = none := by
        unfold World.cell? at hcell0
        split at hcell0
        · cases spot with
          | none => rfl
          | some q => simp at hcell0
        · cases hcell0
      subst hsp
      have hblk : ∃ cur e2 fr, W.heap[b]? = some (.cells cur e2 fr) := by
        unfold World.cell? at hcell0
        split at hcell0
        · rename_i c e2 fr heq; exact ⟨c, e2, fr, heq⟩
        · cases hcell0
      obtain ⟨cur, e2, fr, hblk⟩ := hblk
      refine ⟨(List.range len).map y, _, rfl, some ⟨b, off, none⟩, cap, by simp, by simpa using hl, ?_, fun _ => ⟨b, off, cur, e2, fr, rfl, hblk, ?_⟩⟩
      · simp only [List.length_map, List.length_range]
        have := Nat.mul_le_mul_right d.by_ hl
        omega
      · simp only [List.length_map, List.length_range]
        refine Kin.Row.of_get len fun i hi => ?_
        obtain ⟨c, h1, h2⟩ := hy i hi
        refine ⟨c, h2, fun j u hj => ?_⟩
        obtain ⟨hcl, hcg⟩ := cells_get h1
        have hjlt : j < d.sz := by rw [← hcl]; exact (List.getElem?_eq_some_iff.1 hj).1
        have := hcg j hjlt
        rw [hj] at this
        have ead : ((⟨b, off, none⟩ : Addr).add (i * d.sz)).add j = ⟨b, off + (i * d.sz + j), none⟩ := by
          unfold Addr.add; split <;> split <;> simp_all
          all_goals omega
        rw [ead] at this
        simp only [World.cell?, hblk] at this
        rw [List.getElem?_drop, Array.getElem?_toList]
        simpa using this
theorem kLI_opens : Opens Tryd.prog kLI 27 := opens_slice Tryd.underlying27 (by kernel_rfl) (by kernel_rfl) (opens_int Tryd.underlying3)
theorem kOp_opens : Opens Tryd.prog kOp 108 := by
  intro H enc W fuel cs x h hw
  obtain ⟨xs, n, rfl, rfl, hl, hlen, hf⟩ := DataW.trod_struct Tryd.underlying108 h
  have hl6 : cs.length = 6 := hl.trans (by kernel_rfl)
  have hx6 : xs.length = 6 := hlen
  match cs, hl6, xs, hx6 with
  | [c0, c1, c2, c3, c4, c5], _, [x0, x1, x2, x3, x4, x5], _ =>
    have f0 := hf 0 _ rfl
    have f1 := hf 1 _ rfl
    have f2 := hf 2 _ rfl
    have f3 := hf 3 _ rfl
    have f4 := hf 4 _ rfl
    have f5 := hf 5 _ rfl
    have hw' : ∀ (j : Nat) (t : TypeId) (d : DataW H), ([3, 9, 3, 27, 4, 4] : List TypeId)[j]? = some t → [x0.1, x1.1, x2.1, x3.1, x4.1, x5.1][j]? = some d → ∀ n ∈ d.weights Tryd.prog t, n ≤ reachBytes := fun j t d ht hd q hq => by
      refine hw q ?_
      have := DataW.weights_mem_each ht hd q hq
      simp only [DataW.weights, Tryd.underlying108]
      exact this
    obtain ⟨y0, k0⟩ := opens_int (e := 3) Tryd.underlying3 H enc W n [c0] x0 f0 (hw' 0 _ _ rfl rfl)
    obtain ⟨y1, k1⟩ := opens_str (e := 9) Tryd.underlying9 H enc W n [c1] x1 f1 (hw' 1 _ _ rfl rfl)
    obtain ⟨y2, k2⟩ := opens_int (e := 3) Tryd.underlying3 H enc W n [c2] x2 f2 (hw' 2 _ _ rfl rfl)
    obtain ⟨y3, k3⟩ := kLI_opens H enc W n [c3] x3 f3 (hw' 3 _ _ rfl rfl)
    obtain ⟨y4, k4⟩ := opens_bool (e := 4) Tryd.underlying4 H enc W n [c4] x4 f4 (hw' 4 _ _ rfl rfl)
    obtain ⟨y5, k5⟩ := opens_bool (e := 4) Tryd.underlying4 H enc W n [c5] x5 f5 (hw' 5 _ _ rfl rfl)
    exact ⟨⟨y0, y1, y2, y3, y4, y5⟩, [c0], [c1, c2, c3, c4, c5], rfl, k0, [c1], [c2, c3, c4, c5], rfl, k1, [c2], [c3, c4, c5], rfl, k2, [c3], [c4, c5], rfl, k3, [c4], [c5], rfl, k4, k5⟩
theorem kLO_opens : Opens Tryd.prog kLO 71 := opens_slice Tryd.underlying71 (by kernel_rfl) (by kernel_rfl) kOp_opens
theorem kT_opens : Opens Tryd.prog kT 75 := by
  intro H enc W fuel cs x h hw
  obtain ⟨xs, n, rfl, rfl, hl, hlen, hf⟩ := DataW.trod_struct Tryd.underlying75 h
  have hl5 : cs.length = 5 := hl.trans (by kernel_rfl)
  have hx5 : xs.length = 5 := hlen
  match cs, hl5, xs, hx5 with
  | [c0, c1, c2, c3, c4], _, [x0, x1, x2, x3, x4], _ =>
    have f0 := hf 0 _ rfl
    have f1 := hf 1 _ rfl
    have f2 := hf 2 _ rfl
    have f3 := hf 3 _ rfl
    have f4 := hf 4 _ rfl
    have hw' : ∀ (j : Nat) (t : TypeId) (d : DataW H), ([3, 3, 3, 3, 71] : List TypeId)[j]? = some t → [x0.1, x1.1, x2.1, x3.1, x4.1][j]? = some d → ∀ n ∈ d.weights Tryd.prog t, n ≤ reachBytes := fun j t d ht hd q hq => by
      refine hw q ?_
      have := DataW.weights_mem_each ht hd q hq
      simp only [DataW.weights, Tryd.underlying75]
      exact this
    obtain ⟨y0, k0⟩ := opens_int (e := 3) Tryd.underlying3 H enc W n [c0] x0 f0 (hw' 0 _ _ rfl rfl)
    obtain ⟨y1, k1⟩ := opens_int (e := 3) Tryd.underlying3 H enc W n [c1] x1 f1 (hw' 1 _ _ rfl rfl)
    obtain ⟨y2, k2⟩ := opens_int (e := 3) Tryd.underlying3 H enc W n [c2] x2 f2 (hw' 2 _ _ rfl rfl)
    obtain ⟨y3, k3⟩ := opens_int (e := 3) Tryd.underlying3 H enc W n [c3] x3 f3 (hw' 3 _ _ rfl rfl)
    obtain ⟨y4, k4⟩ := kLO_opens H enc W n [c4] x4 f4 (hw' 4 _ _ rfl rfl)
    exact ⟨⟨y0, y1, y2, y3, y4⟩, [c0], [c1, c2, c3, c4], rfl, k0, [c1], [c2, c3, c4], rfl, k1, [c2], [c3, c4], rfl, k2, [c3], [c4], rfl, k3, k4⟩
def kLT : Kin (List Txn) := Kin.slice kT 57
theorem kLT_opens : Opens Tryd.prog kLT 57 := opens_slice Tryd.underlying57 (by kernel_rfl) (by kernel_rfl) kT_opens
end Go.Proofs.YtemdmpgekegfhaaDoor
