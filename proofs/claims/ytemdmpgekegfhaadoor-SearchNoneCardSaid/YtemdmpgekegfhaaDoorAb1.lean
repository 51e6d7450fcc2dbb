/- What rows hand in; what states have behind operations, and how long their texts are. -/
import Derived.Test.YtemdmpgekegfhaaDoorData
import Derived.ProofKit
import Derived.SizedLaws
import Derived.Deep.Slices
import Derived.Test.YtemdmpgekegfhaaDoorRfb1
import Derived.Test.YtemdmpgekegfhaaDoorTx1
import Derived.Test.YtemdmpgekegfhaaDoorRange
section
namespace Go.Proofs.YtemdmpgekegfhaaDoor
open Go.RowKit Go.ChangeShapes Go.WideShapes Go.ChangeAt
set_option linter.all false
set_option maxRecDepth 10000

def Opens {α : Type} (P : Program) (d : Kin α) (t : TypeId) : Prop :=
  ∀ (H : Type) (enc : TypeId × Value → H) (W : World) (fuel : Nat) (cs : List Value) (x : DataW H × List MemPlace), DataW.trod enc P W 0 (fun _ => true) true fuel t cs = some x →
    (∀ n ∈ x.1.weights P t, n ≤ reachBytes) → ∃ y, d.K (all W) y cs
theorem reach_eq : reachBytes = 140737488351232 := by decide
theorem opens_int {P : Program} {t e : TypeId} (ht : P.underlying t = some (.int .i64)) : Opens P (Kin.int e) t := by
  intro H enc W fuel cs x h _
  cases fuel with
  | zero => simp [DataW.trod] at h
  | succ n =>
    unfold DataW.trod at h
    rw [ht] at h
    split at h <;> first
      | (rename_i heq
         cases heq
         split at h
         · rename_i hh
           obtain ⟨rfl, hw⟩ := hh
           refine ⟨_, rfl, ?_⟩
           simp only [Lit.wf, IntKind.min, IntKind.max, IntKind.signed, IntKind.bits, Bool.and_eq_true, decide_eq_true_eq, if_true] at hw
           unfold Kin.inI64; omega
         · cases h)
      | (simp_all; done)
theorem opens_bool {P : Program} {t e : TypeId} (ht : P.underlying t = some .bool) : Opens P (Kin.bool e) t := by
  intro H enc W fuel cs x h _
  cases fuel with
  | zero => simp [DataW.trod] at h
  | succ n =>
    unfold DataW.trod at h
    rw [ht] at h
    split at h <;> first | (exact ⟨_, rfl, trivial⟩) | (simp_all; done)
theorem opens_str {P : Program} {t e : TypeId} (ht : P.underlying t = some .string) : Opens P (Kin.str e) t := by
  intro H enc W fuel cs x h hw
  cases fuel with
  | zero => simp [DataW.trod] at h
  | succ n =>
    unfold DataW.trod at h
    rw [ht] at h
    split at h <;> first
      | (rename_i s _
         split at h
         · cases h
           refine ⟨s, rfl, ?_⟩
           have := hw s.data.toList.length (by simp [DataW.weights])
           rw [reach_eq] at this
           simpa using this
         · cases h)
      | (simp_all; done)
theorem weightsAll_mem {H : Type} {P : Program} {e : TypeId} : ∀ {l : List (DataW H)} {d : DataW H}, d ∈ l → ∀ n ∈ d.weights P e, n ∈ DataW.weightsAll P e l
  | [], _, h, _, _ => by cases h
  | a :: l, d, h, n, hn => by
    simp only [DataW.weightsAll, List.mem_append]
    rcases List.mem_cons.1 h with rfl | h
    · exact .inl hn
    · exact .inr (weightsAll_mem h n hn)
theorem Kin.Row.of_get {α : Type} {d : Kin α} {s : SH} {l : List Value} {y : Nat → α} : ∀ (n : Nat), (∀ i, i < n → ∃ c, d.K s (y i) c ∧ ∀ j u, c[j]? = some u → l[i * d.sz + j]? = some u) → d.Row s ((List.range n).map y) (l.take (n * d.sz))
  | 0, _ => by simp [Kin.Row]
  | n + 1, h => by
    obtain ⟨c, hc, hg⟩ := h n (by omega)
    have h1 := Kin.Row.of_get n fun i hi => h i (by omega)
    have h2 := h1.append (Kin.Row.single hc)
    have e : l.take ((n + 1) * d.sz) = l.take (n * d.sz) ++ c := by
      have hcl := d.len hc
      apply List.ext_getElem?
      intro i
      have hlen : n * d.sz + d.sz ≤ l.length := by
        have hp := d.szpos
        have := hg (d.sz - 1) _ (List.getElem?_eq_getElem (by omega))
        have := (List.getElem?_eq_some_iff.1 this).1
        omega
      have hl1 : (l.take (n * d.sz)).length = n * d.sz := by rw [List.length_take]; omega
      rw [List.getElem?_take]
      by_cases h3 : i < n * d.sz
      · rw [if_pos (by rw [Nat.succ_mul]; omega), List.getElem?_append_left (by omega), List.getElem?_take, if_pos h3]
      · rw [List.getElem?_append_right (by omega), hl1]
        by_cases h4 : i < (n + 1) * d.sz
        · rw [if_pos h4]
          rw [Nat.succ_mul] at h4
          have h5 : i - n * d.sz < c.length := by omega
          have := hg (i - n * d.sz) _ (List.getElem?_eq_getElem h5)
          rw [List.getElem?_eq_getElem h5, ← this]; congr 1; omega
        · rw [if_neg h4, List.getElem?_eq_none]
          rw [Nat.succ_mul] at h4; omega
    rw [e, List.range_succ, List.map_append]
    exact h2
theorem cells_get {w : World} {a : Addr} {n : Nat} {cs : List Value} (h : w.cells? 0 a n = some cs) : cs.length = n ∧ ∀ i, i < n → w.cell? (a.add i) = cs[i]? := by
  unfold World.cells? at h
  rw [if_pos (Nat.zero_le _)] at h
  refine ⟨by rw [mapM_some_length h]; simp, fun i hi => ?_⟩
  exact mapM_some_get h i i (by simp [hi])
theorem opens_slice {α : Type} {P : Program} {d : Kin α} {t e e' : TypeId} (ht : P.underlying t = some (.slice e)) (hc : P.cellsOf e = d.sz) (hb : P.bytesOf e = d.by_) (hd : Opens P d e) : Opens P (Kin.slice d e') t := by
  intro H enc W fuel cs x h hw
  rcases Go.Deep.open_slice ht h with ⟨rfl, rfl⟩ | ⟨a, len, cap, m, n, D, Pl, rfl, -, hl, hm, hmm, rfl, hx⟩
  · exact ⟨[], _, rfl, Kin.Sl.nil⟩
  · simp only [if_true] at hmm
    obtain rfl : cap = m := hmm.symm
    rw [hc] at hx
    simp only [DataW.weights, ht] at hw
    have hby : cap * d.by_ ≤ 140737488351232 := by
      have := hw _ List.mem_cons_self
      rw [reach_eq, hb, List.length_map, List.length_map, List.length_range, List.length_range] at this
      have e1 : len + (cap - len) = cap := by omega
      rwa [e1] at this
    have hel : ∀ i, i < len → ∃ y : α, ∃ c, W.cells? 0 (a.add (i * d.sz)) d.sz = some c ∧ d.K (all W) y c := fun i hi => by
      obtain ⟨c, h1, h2⟩ := hx i (by omega)
      obtain ⟨y, hy⟩ := hd H enc W n c (D i, Pl i) h2 fun q hq => hw q (List.mem_cons_of_mem _ (List.mem_append_left _ (weightsAll_mem (List.mem_map.2 ⟨i, List.mem_range.2 hi, rfl⟩) q hq)))
      exact ⟨y, c, h1, hy⟩
    by_cases h0 : len = 0
    · subst h0
      exact ⟨[], _, rfl, some a, cap, rfl, Nat.zero_le _, by simp, fun h => absurd rfl h⟩
    · have hy0 := (hel 0 (by omega)).choose
      let y : Nat → α := fun i => if hi : i < len then (hel i hi).choose else hy0
      have hy : ∀ i, i < len → ∃ c, W.cells? 0 (a.add (i * d.sz)) d.sz = some c ∧ d.K (all W) (y i) c := fun i hi => by
        have := (hel i hi).choose_spec
        simp only [y, dif_pos hi]; exact this
      obtain ⟨c0, hc0, _⟩ := hy 0 (by omega)
      have hcell0 := (cells_get hc0).2 0 d.szpos
      have hlen0 := (cells_get hc0).1
      have ha0 : (a.add (0 * d.sz)).add 0 = a := by simp [Addr.add]
      rw [ha0, List.getElem?_eq_getElem (by rw [hlen0]; exact d.szpos)] at hcell0
      obtain ⟨b, off, spot⟩ := a
      have hsp : spot = none := by
        unfold World.cell? at hcell0
        split at hcell0
        · cases spot with
          | none => rfl
          | some q => simp at hcell0
        · cases hcell0
      subst hsp
      have hblk : ∃ cur e2 fr, W.heap[b]? = some (.cells cur e2 fr) := by
        unfold World.cell? at hcell0
        split at hcell0
        · rename_i c e2 fr heq; exact ⟨c, e2, fr, heq⟩
        · cases hcell0
      obtain ⟨cur, e2, fr, hblk⟩ := hblk
      refine ⟨(List.range len).map y, _, rfl, some ⟨b, off, none⟩, cap, by simp, by simpa using hl, ?_, fun _ => ⟨b, off, cur, e2, fr, rfl, hblk, ?_⟩⟩
      · simp only [List.length_map, List.length_range]
        have := Nat.mul_le_mul_right d.by_ hl
        omega
      · simp only [List.length_map, List.length_range]
        refine Kin.Row.of_get len fun i hi => ?_
        obtain ⟨c, h1, h2⟩ := hy i hi
        refine ⟨c, h2, fun j u hj => ?_⟩
        obtain ⟨hcl, hcg⟩ := cells_get h1
        have hjlt : j < d.sz := by rw [← hcl]; exact (List.getElem?_eq_some_iff.1 hj).1
        have := hcg j hjlt
        rw [hj] at this
        have ead : ((⟨b, off, none⟩ : Addr).add (i * d.sz)).add j = ⟨b, off + (i * d.sz + j), none⟩ := by
          unfold Addr.add; split <;> split <;> simp_all
          all_goals omega
        rw [ead] at this
        simp only [World.cell?, hblk] at this
        rw [List.getElem?_drop, Array.getElem?_toList]
        simpa using this
theorem kLI_opens : Opens Tryd.prog kLI 27 := opens_slice Tryd.underlying27 (by kernel_rfl) (by kernel_rfl) (opens_int Tryd.underlying3)
theorem kOp_opens : Opens Tryd.prog kOp 108 := by
  intro H enc W fuel cs x h hw
  obtain ⟨xs, n, rfl, rfl, hl, hlen, hf⟩ := DataW.trod_struct Tryd.underlying108 h
  have hl6 : cs.length = 6 := hl.trans (by kernel_rfl)
  have hx6 : xs.length = 6 := hlen
  match cs, hl6, xs, hx6 with
  | [c0, c1, c2, c3, c4, c5], _, [x0, x1, x2, x3, x4, x5], _ =>
    have f0 := hf 0 _ rfl
    have f1 := hf 1 _ rfl
    have f2 := hf 2 _ rfl
    have f3 := hf 3 _ rfl
    have f4 := hf 4 _ rfl
    have f5 := hf 5 _ rfl
    have hw' : ∀ (j : Nat) (t : TypeId) (d : DataW H), ([3, 9, 3, 27, 4, 4] : List TypeId)[j]? = some t → [x0.1, x1.1, x2.1, x3.1, x4.1, x5.1][j]? = some d → ∀ n ∈ d.weights Tryd.prog t, n ≤ reachBytes := fun j t d ht hd q hq => by
      refine hw q ?_
      have := DataW.weights_mem_each ht hd q hq
      simp only [DataW.weights, Tryd.underlying108]
      exact this
    obtain ⟨y0, k0⟩ := opens_int (e := 3) Tryd.underlying3 H enc W n [c0] x0 f0 (hw' 0 _ _ rfl rfl)
    obtain ⟨y1, k1⟩ := opens_str (e := 9) Tryd.underlying9 H enc W n [c1] x1 f1 (hw' 1 _ _ rfl rfl)
    obtain ⟨y2, k2⟩ := opens_int (e := 3) Tryd.underlying3 H enc W n [c2] x2 f2 (hw' 2 _ _ rfl rfl)
    obtain ⟨y3, k3⟩ := kLI_opens H enc W n [c3] x3 f3 (hw' 3 _ _ rfl rfl)
    obtain ⟨y4, k4⟩ := opens_bool (e := 4) Tryd.underlying4 H enc W n [c4] x4 f4 (hw' 4 _ _ rfl rfl)
    obtain ⟨y5, k5⟩ := opens_bool (e := 4) Tryd.underlying4 H enc W n [c5] x5 f5 (hw' 5 _ _ rfl rfl)
    exact ⟨⟨y0, y1, y2, y3, y4, y5⟩, [c0], [c1, c2, c3, c4, c5], rfl, k0, [c1], [c2, c3, c4, c5], rfl, k1, [c2], [c3, c4, c5], rfl, k2, [c3], [c4, c5], rfl, k3, [c4], [c5], rfl, k4, k5⟩
theorem kLO_opens : Opens Tryd.prog kLO 71 := opens_slice Tryd.underlying71 (by kernel_rfl) (by kernel_rfl) kOp_opens
theorem kT_opens : Opens Tryd.prog kT 75 := by
  intro H enc W fuel cs x h hw
  obtain ⟨xs, n, rfl, rfl, hl, hlen, hf⟩ := DataW.trod_struct Tryd.underlying75 h
  have hl5 : cs.length = 5 := hl.trans (by kernel_rfl)
  have hx5 : xs.length = 5 := hlen
  match cs, hl5, xs, hx5 with
  | [c0, c1, c2, c3, c4], _, [x0, x1, x2, x3, x4], _ =>
    have f0 := hf 0 _ rfl
    have f1 := hf 1 _ rfl
    have f2 := hf 2 _ rfl
    have f3 := hf 3 _ rfl
    have f4 := hf 4 _ rfl
    have hw' : ∀ (j : Nat) (t : TypeId) (d : DataW H), ([3, 3, 3, 3, 71] : List TypeId)[j]? = some t → [x0.1, x1.1, x2.1, x3.1, x4.1][j]? = some d → ∀ n ∈ d.weights Tryd.prog t, n ≤ reachBytes := fun j t d ht hd q hq => by
      refine hw q ?_
      have := DataW.weights_mem_each ht hd q hq
      simp only [DataW.weights, Tryd.underlying75]
      exact this
    obtain ⟨y0, k0⟩ := opens_int (e := 3) Tryd.underlying3 H enc W n [c0] x0 f0 (hw' 0 _ _ rfl rfl)
    obtain ⟨y1, k1⟩ := opens_int (e := 3) Tryd.underlying3 H enc W n [c1] x1 f1 (hw' 1 _ _ rfl rfl)
    obtain ⟨y2, k2⟩ := opens_int (e := 3) Tryd.underlying3 H enc W n [c2] x2 f2 (hw' 2 _ _ rfl rfl)
    obtain ⟨y3, k3⟩ := opens_int (e := 3) Tryd.underlying3 H enc W n [c3] x3 f3 (hw' 3 _ _ rfl rfl)
    obtain ⟨y4, k4⟩ := kLO_opens H enc W n [c4] x4 f4 (hw' 4 _ _ rfl rfl)
    exact ⟨⟨y0, y1, y2, y3, y4⟩, [c0], [c1, c2, c3, c4], rfl, k0, [c1], [c2, c3, c4], rfl, k1, [c2], [c3, c4], rfl, k2, [c3], [c4], rfl, k3, k4⟩
def kLT : Kin (List Txn) := Kin.slice kT 57
theorem kLT_opens : Opens Tryd.prog kLT 57 := opens_slice Tryd.underlying57 (by kernel_rfl) (by kernel_rfl) kT_opens
end Go.Proofs.YtemdmpgekegfhaaDoor
end

section
namespace Go.Proofs.YtemdmpgekegfhaaDoor
open Go.RowKit Go.ChangeShapes Go.WideShapes Go.ChangeAt
set_option linter.all false
set_option maxRecDepth 10000

def OpensB {α : Type} (P : Program) (d : Kin α) (t : TypeId) (sz : α → Nat) : Prop :=
  ∀ (H : Type) (enc : TypeId × Value → H) (W : World) (fuel : Nat) (cs : List Value) (x : DataW H × List MemPlace), DataW.trod enc P W 0 (fun _ => true) true fuel t cs = some x →
    (∀ n ∈ x.1.weights P t, n ≤ reachBytes) → ∃ y, d.K (all W) y cs ∧ sz y ≤ Rows.uptoBulk x.1
theorem bulk_pos {H : Type} (d : DataW H) : 1 ≤ Rows.uptoBulk d := by
  cases d with
  | lit l => cases l <;> simp [Rows.uptoBulk]
  | nil => simp [Rows.uptoBulk]
  | ptr d => simp [Rows.uptoBulk]
  | slice elems spare => simp [Rows.uptoBulk]
  | agg parts => simp [Rows.uptoBulk]
  | iface t d => simp [Rows.uptoBulk]
  | map entries => simp [Rows.uptoBulk]
  | held h => simp [Rows.uptoBulk]
theorem OpensB.of {α : Type} {P : Program} {d : Kin α} {t : TypeId} (h : Opens P d t) : OpensB P d t (fun _ => 1) :=
  fun H enc W fuel cs x hx hw => let ⟨y, hy⟩ := h H enc W fuel cs x hx hw; ⟨y, hy, bulk_pos _⟩
theorem bulk_sum {H : Type} {f : Nat → Nat} {D : Nat → DataW H} : ∀ (n : Nat), (∀ i, i < n → f i ≤ Rows.uptoBulk (D i)) → ((List.range n).map f).sum ≤ Rows.uptoBulkAll ((List.range n).map D)
  | 0, _ => by simp [Rows.uptoBulkAll]
  | n + 1, h => by
    have app : ∀ (l r : List (DataW H)), Rows.uptoBulkAll (l ++ r) = Rows.uptoBulkAll l + Rows.uptoBulkAll r := fun l r => by
      induction l with
      | nil => simp [Rows.uptoBulkAll]
      | cons x l ih => simp only [List.cons_append, Rows.uptoBulkAll, ih]; omega
    rw [List.range_succ, List.map_append, List.map_append, List.sum_append, app]
    have h1 := bulk_sum n fun i hi => h i (by omega)
    have h2 := h n (by omega)
    simp only [List.map_cons, List.map_nil, List.sum_cons, List.sum_nil, Rows.uptoBulkAll]
    omega
theorem opensB_slice {α : Type} {P : Program} {d : Kin α} {t e e' : TypeId} {sz : α → Nat} (ht : P.underlying t = some (.slice e)) (hc : P.cellsOf e = d.sz) (hb : P.bytesOf e = d.by_) (hd : OpensB P d e sz) : OpensB P (Kin.slice d e') t (fun l => (l.map sz).sum + 1) := by
  intro H enc W fuel cs x h hw
  rcases Go.Deep.open_slice ht h with ⟨rfl, rfl⟩ | ⟨a, len, cap, m, n, D, Pl, rfl, -, hl, hm, hmm, rfl, hx⟩
  · exact ⟨[], ⟨_, rfl, Kin.Sl.nil⟩, bulk_pos _⟩
  · simp only [if_true] at hmm
    obtain rfl : cap = m := hmm.symm
    rw [hc] at hx
    simp only [DataW.weights, ht] at hw
    have hby : cap * d.by_ ≤ 140737488351232 := by
      have := hw _ List.mem_cons_self
      rw [reach_eq, hb, List.length_map, List.length_map, List.length_range, List.length_range] at this
      have e1 : len + (cap - len) = cap := by omega
      rwa [e1] at this
    have hel : ∀ i, i < len → ∃ y : α, ∃ c, (W.cells? 0 (a.add (i * d.sz)) d.sz = some c ∧ d.K (all W) y c) ∧ sz y ≤ Rows.uptoBulk (D i) := fun i hi => by
      obtain ⟨c, h1, h2⟩ := hx i (by omega)
      obtain ⟨y, hy, hyb⟩ := hd H enc W n c (D i, Pl i) h2 fun q hq => hw q (List.mem_cons_of_mem _ (List.mem_append_left _ (weightsAll_mem (List.mem_map.2 ⟨i, List.mem_range.2 hi, rfl⟩) q hq)))
      exact ⟨y, c, ⟨h1, hy⟩, hyb⟩
    by_cases h0 : len = 0
    · subst h0
      exact ⟨[], ⟨_, rfl, some a, cap, rfl, Nat.zero_le _, by simp, fun h => absurd rfl h⟩, bulk_pos _⟩
    · have hy0 := (hel 0 (by omega)).choose
      let y : Nat → α := fun i => if hi : i < len then (hel i hi).choose else hy0
      have hy2 : ∀ i, i < len → ∃ c, (W.cells? 0 (a.add (i * d.sz)) d.sz = some c ∧ d.K (all W) (y i) c) ∧ sz (y i) ≤ Rows.uptoBulk (D i) := fun i hi => by
        have := (hel i hi).choose_spec
        simp only [y, dif_pos hi]; exact this
      have hy : ∀ i, i < len → ∃ c, W.cells? 0 (a.add (i * d.sz)) d.sz = some c ∧ d.K (all W) (y i) c := fun i hi => let ⟨c, h, _⟩ := hy2 i hi; ⟨c, h⟩
      obtain ⟨c0, hc0, _⟩ := hy 0 (by omega)
      have hcell0 := (cells_get hc0).2 0 d.szpos
      have hlen0 := (cells_get hc0).1
      have ha0 : (a.add (0 * d.sz)).add 0 = a := by simp [Addr.add]
      rw [ha0, List.getElem?_eq_getElem (by rw [hlen0]; exact d.szpos)] at hcell0
      obtain ⟨b, off, spot⟩ := a
      have hsp : spot = none := by
        unfold World.cell? at hcell0
        split at hcell0
        · cases spot with
          | none => rfl
          | some q => simp at hcell0
        · cases hcell0
      subst hsp
      have hblk : ∃ cur e2 fr, W.heap[b]? = some (.cells cur e2 fr) := by
        unfold World.cell? at hcell0
        split at hcell0
        · rename_i c e2 fr heq; exact ⟨c, e2, fr, heq⟩
        · cases hcell0
      obtain ⟨cur, e2, fr, hblk⟩ := hblk
      refine ⟨(List.range len).map y, ⟨_, rfl, some ⟨b, off, none⟩, cap, by simp, by simpa using hl, ?_, fun _ => ⟨b, off, cur, e2, fr, rfl, hblk, ?_⟩⟩, ?_⟩
      · simp only [List.length_map, List.length_range]
        have := Nat.mul_le_mul_right d.by_ hl
        omega
      · simp only [List.length_map, List.length_range]
        refine Kin.Row.of_get len fun i hi => ?_
        obtain ⟨c, h1, h2⟩ := hy i hi
        refine ⟨c, h2, fun j u hj => ?_⟩
        obtain ⟨hcl, hcg⟩ := cells_get h1
        have hjlt : j < d.sz := by rw [← hcl]; exact (List.getElem?_eq_some_iff.1 hj).1
        have := hcg j hjlt
        rw [hj] at this
        have ead : ((⟨b, off, none⟩ : Addr).add (i * d.sz)).add j = ⟨b, off + (i * d.sz + j), none⟩ := by
          unfold Addr.add; split <;> split <;> simp_all
          all_goals omega
        rw [ead] at this
        simp only [World.cell?, hblk] at this
        rw [List.getElem?_drop, Array.getElem?_toList]
        simpa using this
      · have h1 := bulk_sum (f := fun i => sz (y i)) (D := D) len fun i hi => let ⟨_, _, h⟩ := hy2 i hi; h
        simp only [List.map_map, Rows.uptoBulk]
        have : ((List.range len).map (sz ∘ y)).sum = ((List.range len).map fun i => sz (y i)).sum := rfl
        rw [this]; omega
theorem opens_strB {P : Program} {t e : TypeId} (ht : P.underlying t = some .string) : OpensB P (Kin.str e) t (fun s => s.size + 1) := by
  intro H enc W fuel cs x h hw
  cases fuel with
  | zero => simp [DataW.trod] at h
  | succ n =>
    unfold DataW.trod at h
    rw [ht] at h
    split at h <;> first
      | (rename_i s _
         split at h
         · cases h
           have := hw s.data.toList.length (by simp [DataW.weights])
           rw [reach_eq] at this
           refine ⟨s, ⟨rfl, by simpa using this⟩, ?_⟩
           simp [Rows.uptoBulk]
         · cases h)
      | (simp_all; done)
def szOp (o : Op') : Nat := o.list.length + o.key.size + 1
theorem kLI_opensB : OpensB Tryd.prog kLI 27 (fun l => (l.map fun _ => 1).sum + 1) := opensB_slice Tryd.underlying27 (by kernel_rfl) (by kernel_rfl) (OpensB.of (opens_int Tryd.underlying3))
theorem sum_ones (l : List Int) : (l.map fun _ => 1).sum = l.length := by induction l with
  | nil => rfl
  | cons x l ih => simp [ih]; omega
theorem kOp_opensB : OpensB Tryd.prog kOp 108 szOp := by
  intro H enc W fuel cs x h hw
  obtain ⟨xs, n, rfl, rfl, hl, hlen, hf⟩ := DataW.trod_struct Tryd.underlying108 h
  have hl6 : cs.length = 6 := hl.trans (by kernel_rfl)
  have hx6 : xs.length = 6 := hlen
  match cs, hl6, xs, hx6 with
  | [c0, c1, c2, c3, c4, c5], _, [x0, x1, x2, x3, x4, x5], _ =>
    have f0 := hf 0 _ rfl
    have f1 := hf 1 _ rfl
    have f2 := hf 2 _ rfl
    have f3 := hf 3 _ rfl
    have f4 := hf 4 _ rfl
    have f5 := hf 5 _ rfl
    have hw' : ∀ (j : Nat) (t : TypeId) (d : DataW H), ([3, 9, 3, 27, 4, 4] : List TypeId)[j]? = some t → [x0.1, x1.1, x2.1, x3.1, x4.1, x5.1][j]? = some d → ∀ n ∈ d.weights Tryd.prog t, n ≤ reachBytes := fun j t d ht hd q hq => by
      refine hw q ?_
      have := DataW.weights_mem_each ht hd q hq
      simp only [DataW.weights, Tryd.underlying108]
      exact this
    obtain ⟨y0, k0⟩ := opens_int (e := 3) Tryd.underlying3 H enc W n [c0] x0 f0 (hw' 0 _ _ rfl rfl)
    obtain ⟨y1, k1, b1⟩ := opens_strB (e := 9) Tryd.underlying9 H enc W n [c1] x1 f1 (hw' 1 _ _ rfl rfl)
    obtain ⟨y2, k2⟩ := opens_int (e := 3) Tryd.underlying3 H enc W n [c2] x2 f2 (hw' 2 _ _ rfl rfl)
    obtain ⟨y3, k3, b3⟩ := kLI_opensB H enc W n [c3] x3 f3 (hw' 3 _ _ rfl rfl)
    obtain ⟨y4, k4⟩ := opens_bool (e := 4) Tryd.underlying4 H enc W n [c4] x4 f4 (hw' 4 _ _ rfl rfl)
    obtain ⟨y5, k5⟩ := opens_bool (e := 4) Tryd.underlying4 H enc W n [c5] x5 f5 (hw' 5 _ _ rfl rfl)
    refine ⟨⟨y0, y1, y2, y3, y4, y5⟩, ⟨[c0], [c1, c2, c3, c4, c5], rfl, k0, [c1], [c2, c3, c4, c5], rfl, k1, [c2], [c3, c4, c5], rfl, k2, [c3], [c4, c5], rfl, k3, [c4], [c5], rfl, k4, k5⟩, ?_⟩
    have b1' : y1.size + 1 ≤ _ := b1
    clear b1
    have b3' : (y3.map fun _ => 1).sum + 1 ≤ _ := b3
    rw [sum_ones] at b3'
    unfold szOp
    clear b3
    simp only [Rows.uptoBulk, List.map_cons, List.map_nil, Rows.uptoBulkAll]
    omega
def kLO_sz (l : List Op') : Nat := (l.map szOp).sum + 1
theorem kLO_opensB : OpensB Tryd.prog kLO 71 kLO_sz := opensB_slice Tryd.underlying71 (by kernel_rfl) (by kernel_rfl) kOp_opensB
theorem bulk_ops : ∀ (l : List Op') {n : Nat}, (l.map szOp).sum ≤ n → l.length ≤ n ∧ ∀ o ∈ l, o.list.length ≤ n
  | [], _, _ => ⟨Nat.zero_le _, fun _ h => by cases h⟩
  | o :: l, n, h => by
    simp only [List.map_cons, List.sum_cons] at h
    have h1 := bulk_ops l (n := n - szOp o) (by omega)
    have h2 : szOp o = o.list.length + o.key.size + 1 := rfl
    refine ⟨by simp only [List.length_cons]; omega, fun p hp => ?_⟩
    rcases List.mem_cons.1 hp with e | e
    · subst e; omega
    · have := h1.2 p e; omega
theorem bulk_keys : ∀ (l : List Op') {n : Nat}, (l.map szOp).sum ≤ n → ∀ o ∈ l, o.key.size ≤ n
  | [], _, _ => fun _ h => by cases h
  | o :: l, n, h => by
    simp only [List.map_cons, List.sum_cons] at h
    have h1 := bulk_keys l (n := n - szOp o) (by omega)
    have h2 : szOp o = o.list.length + o.key.size + 1 := rfl
    intro p hp
    rcases List.mem_cons.1 hp with e | e
    · subst e; omega
    · have := h1 p e; omega
theorem len_bulk : ∀ (l : List Op'), l.length ≤ (l.map szOp).sum
  | [] => Nat.le_refl _
  | o :: l => by
    have := len_bulk l
    have h2 : szOp o = o.list.length + o.key.size + 1 := rfl
    simp only [List.map_cons, List.sum_cons, List.length_cons]; omega
theorem bulk_two (a b : List Op') {n : Nat} (h : (a.map szOp).sum + (b.map szOp).sum ≤ n) : a.length + b.length ≤ n := by
  have h1 := len_bulk a
  have h2 := len_bulk b
  omega
end Go.Proofs.YtemdmpgekegfhaaDoor
end

section
namespace Go.Proofs.YtemdmpgekegfhaaDoor
open Go.RowKit
set_option linter.all false
set_option maxRecDepth 10000

def kLI_sz (l : List Int) : Nat := (l.map fun _ => 1).sum + 1
def szT (t : Txn) : Nat := kLO_sz t.ops + 1
theorem kT_opensB : OpensB Tryd.prog kT 75 szT := by
  intro H enc W fuel cs x h hw
  obtain ⟨xs, n, rfl, rfl, hl, hlen, hf⟩ := DataW.trod_struct Tryd.underlying75 h
  have hl5 : cs.length = 5 := hl.trans (by kernel_rfl)
  have hx5 : xs.length = 5 := hlen
  match cs, hl5, xs, hx5 with
  | [c0, c1, c2, c3, c4], _, [x0, x1, x2, x3, x4], _ =>
    have f0 := hf 0 _ rfl
    have f1 := hf 1 _ rfl
    have f2 := hf 2 _ rfl
    have f3 := hf 3 _ rfl
    have f4 := hf 4 _ rfl
    have hw' : ∀ (j : Nat) (t : TypeId) (d : DataW H), ([3, 3, 3, 3, 71] : List TypeId)[j]? = some t → [x0.1, x1.1, x2.1, x3.1, x4.1][j]? = some d → ∀ n ∈ d.weights Tryd.prog t, n ≤ reachBytes := fun j t d ht hd q hq => by
      refine hw q ?_
      have := DataW.weights_mem_each ht hd q hq
      simp only [DataW.weights, Tryd.underlying75]
      exact this
    obtain ⟨y0, k0⟩ := opens_int (e := 3) Tryd.underlying3 H enc W n [c0] x0 f0 (hw' 0 _ _ rfl rfl)
    obtain ⟨y1, k1⟩ := opens_int (e := 3) Tryd.underlying3 H enc W n [c1] x1 f1 (hw' 1 _ _ rfl rfl)
    obtain ⟨y2, k2⟩ := opens_int (e := 3) Tryd.underlying3 H enc W n [c2] x2 f2 (hw' 2 _ _ rfl rfl)
    obtain ⟨y3, k3⟩ := opens_int (e := 3) Tryd.underlying3 H enc W n [c3] x3 f3 (hw' 3 _ _ rfl rfl)
    obtain ⟨y4, k4, b4⟩ := kLO_opensB H enc W n [c4] x4 f4 (hw' 4 _ _ rfl rfl)
    refine ⟨⟨y0, y1, y2, y3, y4⟩, ⟨[c0], [c1, c2, c3, c4], rfl, k0, [c1], [c2, c3, c4], rfl, k1, [c2], [c3, c4], rfl, k2, [c3], [c4], rfl, k3, k4⟩, ?_⟩
    unfold szT
    simp only [Rows.uptoBulk, List.map_cons, List.map_nil, Rows.uptoBulkAll]
    omega
def kLT_sz (l : List Txn) : Nat := (l.map szT).sum + 1
theorem kLT_opensB : OpensB Tryd.prog kLT 57 kLT_sz := opensB_slice Tryd.underlying57 (by kernel_rfl) (by kernel_rfl) kT_opensB
theorem bulk_txns : ∀ (l : List Txn) {n : Nat}, (l.map szT).sum ≤ n → l.length ≤ n ∧ ∀ t ∈ l, t.ops.length ≤ n
  | [], _, _ => ⟨Nat.zero_le _, fun _ h => by cases h⟩
  | t :: l, n, h => by
    simp only [List.map_cons, List.sum_cons] at h
    have h1 := bulk_txns l (n := n - szT t) (by omega)
    have h2 : szT t = (t.ops.map szOp).sum + 1 + 1 := rfl
    have h3 := len_bulk t.ops
    refine ⟨by simp only [List.length_cons]; omega, fun p hp => ?_⟩
    rcases List.mem_cons.1 hp with e | e
    · subst e; omega
    · have := h1.2 p e; omega
end Go.Proofs.YtemdmpgekegfhaaDoor
end

section
namespace Go.Proofs.YtemdmpgekegfhaaDoor
open Go.RowKit
set_option linter.all false
set_option maxRecDepth 10000

/-! ### states that were made by operations -/
def Wf (f : ByteArray → Option (List Int)) (g : ByteArray → Option Int) : Prop := fin f ∧ fin g ∧ ∀ k, f k ≠ some []
def WfM (m : MSt) : Prop := Wf m.lists m.regs
theorem wf_nil : Wf fnil fnil := ⟨fin_nil, fin_nil, fun k => by simp [fnil]⟩
theorem wf_app {f : ByteArray → Option (List Int)} {g : ByteArray → Option Int} (h : Wf f g) (k : ByteArray) {xs : List Int} (hx : xs ≠ []) : Wf (fset f k xs) g := by
  refine ⟨fin_set h.1 k xs, h.2.1, fun j => ?_⟩
  unfold fset
  split
  · simpa using hx
  · exact h.2.2 j
theorem wf_wr {f : ByteArray → Option (List Int)} {g : ByteArray → Option Int} (h : Wf f g) (k : ByteArray) (v : Int) : Wf f (fset g k v) := ⟨h.1, fin_set h.2.1 k v, h.2.2⟩
theorem apply_wf_l (b : Bool) (m0 : MSt) (h0 : WfM m0) : ∀ (r : List Op') (k : Nat) (f : ByteArray → Option (List Int)) (g : ByteArray → Option Int) (R : (Bool × MSt) ⊕ ((ByteArray → Option (List Int)) × (ByteArray → Option Int))), Wf f g → model_State_Apply_l6 b m0 k r f g = some R →
    (∀ q, R = .inl q → WfM q.2) ∧ ∀ f' g', R = .inr (f', g') → Wf f' g'
  | [], k, f, g, R, h, e => by
    unfold model_State_Apply_l6 at e
    have e := Option.some.inj e
    subst e
    exact ⟨fun q h => (by cases h), fun f' g' e => by cases e; exact h⟩
  | o :: r, k, f, g, R, h, e => by
    have ih := apply_wf_l b m0 h0 r (k + 1)
    have step : ∀ (X : Option ((Bool × MSt) ⊕ ((ByteArray → Option (List Int)) × (ByteArray → Option Int)))),
        X = (if ((decide (o.kind > 0)) && (decide (o.kind < 5))) = true then (if (o.kind == 0) = true then (model_State_Apply_l6 b m0 (k + 1) r f g) else (if (o.kind == 1) = true then ((model_State_append_f (⟨f, g⟩ : MSt) o).bind fun u2 => model_State_Apply_l6 b m0 (k + 1) r u2.lists u2.regs) else (if (o.kind == 2) = true then (model_State_Apply_l6 b m0 (k + 1) r f g) else (if (o.kind == 3) = true then (model_State_Apply_l6 b m0 (k + 1) r ((model_State_write_f (⟨f, g⟩ : MSt) o).lists) ((model_State_write_f (⟨f, g⟩ : MSt) o).regs)) else (if (o.kind == 4) = true then (model_State_Apply_l6 b m0 (k + 1) r f g) else (none)))))) else (model_State_Apply_l6 b m0 (k + 1) r f g)) →
        X = some R → (∀ q, R = .inl q → WfM q.2) ∧ ∀ f' g', R = .inr (f', g') → Wf f' g' := by
      intro X hX hR
      rw [hX] at hR
      split at hR
      · split at hR
        · exact ih _ _ _ h hR
        · split at hR
          · unfold model_State_append_f at hR
            dsimp only at hR
            unfold app at hR
            split at hR
            · simp only [Option.bind_some] at hR
              exact ih _ _ _ (wf_app h _ (by simp)) hR
            · cases hR
          · split at hR
            · exact ih _ _ _ h hR
            · split at hR
              · exact ih _ _ _ (wf_wr h _ _) hR
              · split at hR
                · exact ih _ _ _ h hR
                · cases hR
      · exact ih _ _ _ h hR
    unfold model_State_Apply_l6 at e
    cases b with
    | true => exact step _ rfl e
    | false =>
      simp only [Bool.not_false, if_true] at e
      cases hr : model_State_right_f (⟨f, g⟩ : MSt) o with
      | none => rw [hr] at e; cases e
      | some u =>
        rw [hr] at e
        simp only [Option.bind_some] at e
        cases u with
        | false =>
          have e := Option.some.inj e
          subst e
          exact ⟨fun q hq => (by cases hq; exact h0), fun f' g' h => by cases h⟩
        | true => exact step _ rfl e
theorem apply_wf {m m' : MSt} {l : List Op'} {b q : Bool} (h : WfM m) (e : model_State_Apply_f m l b = some (q, m')) : WfM m' := by
  unfold model_State_Apply_f model_State_Copy_f maps_Clone_mapstringint_f at e
  dsimp only at e
  cases hl : model_State_Apply_l6 b m 0 l m.lists m.regs with
  | none => rw [hl] at e; cases e
  | some R =>
    rw [hl] at e
    have h2 := apply_wf_l b m h l 0 m.lists m.regs R h hl
    cases R with
    | inl z =>
      have e := Option.some.inj e
      subst e
      exact h2.1 _ rfl
    | inr p =>
      obtain ⟨f', g'⟩ := p
      have e := Option.some.inj e
      cases e
      exact h2.2 _ _ rfl
theorem key_eq (a b : ByteArray) : (a.toList == b.toList) = decide (a = b) := by
  by_cases h : a = b
  · subst h; simp
  · have : a.toList ≠ b.toList := fun e => h (by
      have := congrArg List.length e
      apply ByteArray.ext
      apply Array.toList_inj.1
      simpa [ByteArray.toList_eq] using e)
    simp [h, this]
def ls (l : List Op') (k : ByteArray) : List Int := (l.filter fun o => o.kind == 1 && o.key.toList == k.toList).map (·.value)
def rg : List Op' → ByteArray → Option Int
  | [], _ => none
  | o :: l, k => (rg l k).or (if o.kind == 3 && o.key.toList == k.toList then some o.value else none)
theorem rg_snoc (l : List Op') (o : Op') (k : ByteArray) : rg (l ++ [o]) k = if o.kind == 3 && o.key.toList == k.toList then some o.value else rg l k := by
  induction l with
  | nil => simp [rg]
  | cons p l ih =>
    simp only [List.cons_append, rg, ih]
    split <;> simp
theorem ls_snoc (l : List Op') (o : Op') (k : ByteArray) : ls (l ++ [o]) k = if o.kind == 1 && o.key.toList == k.toList then ls l k ++ [o.value] else ls l k := by
  unfold ls
  rw [List.filter_append, List.map_append]
  by_cases h : (o.kind == 1 && o.key.toList == k.toList) = true
  · simp [h]
  · simp [h]
theorem ls_len (l : List Op') (k : ByteArray) : (ls l k).length ≤ l.length := by unfold ls; rw [List.length_map]; exact List.length_filter_le _ _
theorem app_ok {α : Type} {by_ : Nat} {xs : List α} {x : α} (h : (xs.length + 1) * by_ ≤ 140737488355328) : app by_ xs x = some (xs ++ [x]) := if_pos h
theorem rdI_ok {α : Type} {xs : List α} {k : Nat} {x : α} {r : List α} (h : xs.drop k = x :: r) : rdI xs (k : Int) = some x := by
  unfold rdI
  rw [if_pos (by omega)]
  have hk : k < xs.length := Classical.byContradiction fun hn => by rw [List.drop_of_length_le (by omega)] at h; cases h
  rw [List.drop_eq_getElem_cons hk] at h
  rw [show ((k : Int)).toNat = k from by omega, List.getElem?_eq_getElem hk, (List.cons.inj h).1]
theorem list_l (a1 : ByteArray) : ∀ (r : List Op') (k : Nat) (ys : List Int), ys.length + r.length ≤ 2000000000000 → assayerref16_State_List_l3 a1 k r ys = some (ys ++ ls r a1)
  | [], k, ys, _ => by simp [assayerref16_State_List_l3, ls]
  | x :: r, k, ys, h => by
    simp only [List.length_cons] at h
    unfold assayerref16_State_List_l3
    by_cases hx : (x.kind == 1 && x.key.toList == a1.toList) = true
    · rw [if_pos hx, app_ok (by omega)]
      simp only [Option.bind_some]
      rw [list_l a1 r (k + 1) _ (by rw [List.length_append, List.length_singleton]; omega)]
      unfold ls; rw [List.filter_cons, if_pos hx]; simp
    · rw [if_neg hx, list_l a1 r (k + 1) _ (by omega)]
      unfold ls; rw [List.filter_cons, if_neg hx]
theorem list_ok (l : List Op') (k : ByteArray) (h : l.length ≤ 2000000000000) : assayerref16_State_List_f ⟨l⟩ k = some (ls l k) := by
  unfold assayerref16_State_List_f
  rw [list_l k l 0 [] (by simpa using h)]; rfl
theorem wrap_small {i : Int} (h1 : -9223372036854775808 ≤ i) (h2 : i ≤ 9223372036854775807) : IntKind.i64.wrap i = i := by
  have e1 : (2 : Int) ^ (64 - 1) = 9223372036854775808 := rfl
  simp only [IntKind.wrap, IntKind.bits, IntKind.signed, Bool.true_and, decide_eq_true_eq, e1]
  split <;> omega
theorem val_l (l : List Op') (k : ByteArray) (hl : l.length ≤ 2000000000000) : ∀ (n fuel : Nat), n ≤ l.length → n < fuel → assayerref16_State_Value_l2 ⟨l⟩ k fuel ((n : Int) - 1) = some (match rg (l.take n) k with | some v => .inl (v, true) | none => .inr ())
  | n, 0, _, h => by omega
  | 0, f + 1, _, _ => by
    unfold assayerref16_State_Value_l2
    rw [if_neg (by simp)]; rfl
  | n + 1, f + 1, h1, h2 => by
    unfold assayerref16_State_Value_l2
    have hn : n < l.length := by omega
    rw [if_pos (by simp), show ((n + 1 : Nat) : Int) - 1 = (n : Int) from by omega, rdI_ok (List.drop_eq_getElem_cons hn)]
    simp only [Option.bind_some]
    rw [List.take_succ_eq_append_getElem hn, rg_snoc]
    by_cases hx : (l[n].kind == 3 && l[n].key.toList == k.toList) = true
    · rw [if_pos hx, if_pos hx]
    · rw [if_neg hx, if_neg hx, wrap_small (by omega) (by omega), val_l l k hl n f (by omega) (by omega)]
theorem val_ok (l : List Op') (k : ByteArray) (hl : l.length ≤ 2000000000000) {fuel : Nat} (hf : 2000000000001 < fuel) : assayerref16_State_Value_f fuel ⟨l⟩ k = some ((rg l k).getD 0, (rg l k).isSome) := by
  unfold assayerref16_State_Value_f
  rw [wrap_small (by simp only; omega) (by simp only; omega), val_l l k hl l.length fuel (Nat.le_refl _) (by omega), List.take_length]
  cases rg l k <;> rfl
theorem eqA (ys : List Int) : ∀ (r : List Int) (k : Nat), k + r.length = ys.length → slices_Equal_I_l4 ys k r = some (if r = ys.drop k then .inr () else .inl false)
  | [], k, h => by
    unfold slices_Equal_I_l4
    rw [List.drop_of_length_le (by simp at h; omega), if_pos rfl]
  | x :: r, k, h => by
    unfold slices_Equal_I_l4
    simp only [List.length_cons] at h
    have hk : k < ys.length := by omega
    rw [rdI_ok (List.drop_eq_getElem_cons hk)]
    simp only [Option.bind_some]
    rw [List.drop_eq_getElem_cons hk]
    by_cases e : x = ys[k]
    · rw [if_neg (by simp [e]), eqA ys r (k + 1) (by omega)]
      simp only [e, List.cons.injEq, true_and]
    · rw [if_pos (by simp [e]), if_neg (fun h => e (List.cons.inj h).1)]
theorem eqB (ys : List Int) : ∀ (r : List Int) (k : Nat), k + r.length = ys.length → assayerref02_SameList_l4 ys k r = some (if r = ys.drop k then .inr () else .inl false)
  | [], k, h => by
    unfold assayerref02_SameList_l4
    rw [List.drop_of_length_le (by simp at h; omega), if_pos rfl]
  | x :: r, k, h => by
    unfold assayerref02_SameList_l4
    simp only [List.length_cons] at h
    have hk : k < ys.length := by omega
    rw [rdI_ok (List.drop_eq_getElem_cons hk)]
    simp only [Option.bind_some]
    rw [List.drop_eq_getElem_cons hk]
    by_cases e : x = ys[k]
    · rw [if_neg (by simp [e]), eqB ys r (k + 1) (by omega)]
      simp only [e, List.cons.injEq, true_and]
    · rw [if_pos (by simp [e]), if_neg (fun h => e (List.cons.inj h).1)]
theorem eqA_ok (xs ys : List Int) : slices_Equal_I_f xs ys = some (decide (xs = ys)) := by
  unfold slices_Equal_I_f
  by_cases h : xs.length = ys.length
  · rw [if_neg (by simp [h]), eqA ys xs 0 (by omega), List.drop_zero]
    by_cases e : xs = ys <;> simp [e]
  · rw [if_pos (by simp; omega)]
    have : xs ≠ ys := fun e => h (by rw [e])
    simp [this]
theorem eqB_ok (xs ys : List Int) : assayerref02_SameList_f xs ys = some (decide (xs = ys)) := by
  unfold assayerref02_SameList_f
  by_cases h : xs.length = ys.length
  · rw [if_neg (by simp [h]), eqB ys xs 0 (by omega), List.drop_zero]
    by_cases e : xs = ys <;> simp [e]
  · rw [if_pos (by simp; omega)]
    have : xs ≠ ys := fun e => h (by rw [e])
    simp [this]
/-- The state has what the operations of the document's state come to. -/
def Abs (f : ByteArray → Option (List Int)) (g : ByteArray → Option Int) (l : List Op') : Prop := (∀ k, (f k).getD [] = ls l k) ∧ ∀ k, g k = rg l k
theorem right_ok {f : ByteArray → Option (List Int)} {g : ByteArray → Option Int} {l : List Op'} (h : Abs f g l) (o : Op') (hl : l.length ≤ 2000000000000) {fuel : Nat} (hf : 2000000000001 < fuel) : ∃ b, model_State_right_f ⟨f, g⟩ o = some b ∧ assayerref16_State_right_f fuel ⟨l⟩ o = some b := by
  unfold model_State_right_f assayerref16_State_right_f
  dsimp only
  rw [eqA_ok, h.1, h.2, list_ok l _ hl]
  simp only [Option.bind_some]
  rw [eqB_ok, val_ok l _ hl hf]
  simp only [Option.bind_some]
  cases o.has with
  | false => simp
  | true =>
    by_cases h2 : (o.kind == 2) = true
    · simp [h2]
    · by_cases h4 : (o.kind == 4) = true <;> simp [h2, h4]
theorem abs_app {f : ByteArray → Option (List Int)} {g : ByteArray → Option Int} {l : List Op'} (h : Abs f g l) {o : Op'} (h1 : (o.kind == 1) = true) : Abs (fset f o.key (((f o.key).getD []) ++ [o.value])) g (l ++ [o]) := by
  have h3 : (o.kind == 3) = false := by simp only [beq_iff_eq] at h1; simp [h1]
  refine ⟨fun k => ?_, fun k => ?_⟩
  · rw [ls_snoc, h1, key_eq, Bool.true_and]
    unfold fset
    by_cases e : k = o.key
    · subst e; simp [h.1]
    · have : ¬ o.key = k := fun h => e h.symm
      simp [e, this, h.1]
  · rw [rg_snoc, h3, h.2]; simp
theorem abs_wr {f : ByteArray → Option (List Int)} {g : ByteArray → Option Int} {l : List Op'} (h : Abs f g l) {o : Op'} (h3 : (o.kind == 3) = true) : Abs f (fset g o.key o.value) (l ++ [o]) := by
  have h1 : (o.kind == 1) = false := by simp only [beq_iff_eq] at h3; simp [h3]
  refine ⟨fun k => ?_, fun k => ?_⟩
  · rw [ls_snoc, h1, h.1]; simp
  · rw [rg_snoc, h3, key_eq, Bool.true_and]
    unfold fset
    by_cases e : k = o.key
    · subst e; simp
    · have : ¬ o.key = k := fun h => e h.symm
      simp [e, this, h.2]
/-- What one operation does to the two states. -/
theorem apply_l {fuel : Nat} (hf : 2000000000001 < fuel) (blind : Bool) (f0 : MSt) (l0 : St16) : ∀ (r : List Op') (k : Nat) (f : ByteArray → Option (List Int)) (g : ByteArray → Option Int) (l : List Op'), Abs f g l → l.length + r.length ≤ 2000000000000 →
    (model_State_Apply_l6 blind f0 k r f g = some (.inl (false, f0)) ∧ assayerref16_State_Apply_l3 fuel blind l0 k r l = some (.inl (false, l0))) ∨
    ∃ f' g' l', model_State_Apply_l6 blind f0 k r f g = some (.inr (f', g')) ∧ assayerref16_State_Apply_l3 fuel blind l0 k r l = some (.inr l') ∧ Abs f' g' l' ∧ l'.length ≤ l.length + r.length ∧ ∀ p ∈ l', p ∈ l ∨ p ∈ r
  | [], k, f, g, l, h, _ => .inr ⟨f, g, l, rfl, rfl, h, Nat.le_refl _, fun p hp => .inl hp⟩
  | o :: r, k, f, g, l, h, hl => by
    simp only [List.length_cons] at hl
    have step : ∀ (X : Option ((Bool × MSt) ⊕ ((ByteArray → Option (List Int)) × (ByteArray → Option Int)))) (Y : Option ((Bool × St16) ⊕ List Op')),
        X = (if ((decide (o.kind > 0)) && (decide (o.kind < 5))) = true then (if (o.kind == 0) = true then (model_State_Apply_l6 blind f0 (k + 1) r f g) else (if (o.kind == 1) = true then ((model_State_append_f (⟨f, g⟩ : MSt) o).bind fun u2 => model_State_Apply_l6 blind f0 (k + 1) r u2.lists u2.regs) else (if (o.kind == 2) = true then (model_State_Apply_l6 blind f0 (k + 1) r f g) else (if (o.kind == 3) = true then (model_State_Apply_l6 blind f0 (k + 1) r ((model_State_write_f (⟨f, g⟩ : MSt) o).lists) ((model_State_write_f (⟨f, g⟩ : MSt) o).regs)) else (if (o.kind == 4) = true then (model_State_Apply_l6 blind f0 (k + 1) r f g) else (none)))))) else (model_State_Apply_l6 blind f0 (k + 1) r f g)) →
        Y = (if ((o.kind == 1) || (o.kind == 3)) = true then ((app 64 l o).bind fun u3 => assayerref16_State_Apply_l3 fuel blind l0 (k + 1) r u3) else (assayerref16_State_Apply_l3 fuel blind l0 (k + 1) r l)) →
        (X = some (.inl (false, f0)) ∧ Y = some (.inl (false, l0))) ∨ ∃ f' g' l', X = some (.inr (f', g')) ∧ Y = some (.inr l') ∧ Abs f' g' l' ∧ l'.length ≤ l.length + (r.length + 1) ∧ ∀ p ∈ l', p ∈ l ∨ p ∈ o :: r := by
      intro X Y hX hY
      have happ : app 64 l o = some (l ++ [o]) := app_ok (by omega)
      have fin : ∀ f2 g2 l2, Abs f2 g2 l2 → l2.length ≤ l.length + 1 → (∀ p ∈ l2, p ∈ l ∨ p = o) → X = model_State_Apply_l6 blind f0 (k + 1) r f2 g2 → Y = assayerref16_State_Apply_l3 fuel blind l0 (k + 1) r l2 →
          (X = some (.inl (false, f0)) ∧ Y = some (.inl (false, l0))) ∨ ∃ f' g' l', X = some (.inr (f', g')) ∧ Y = some (.inr l') ∧ Abs f' g' l' ∧ l'.length ≤ l.length + (r.length + 1) ∧ ∀ p ∈ l', p ∈ l ∨ p ∈ o :: r := by
        intro f2 g2 l2 hA hl2 hm2 e1 e2
        rw [e1, e2]
        rcases apply_l hf blind f0 l0 r (k + 1) f2 g2 l2 hA (by omega) with h | ⟨f', g', l', h1, h2, h3, h4, h5⟩
        · exact .inl h
        · exact .inr ⟨f', g', l', h1, h2, h3, by omega, fun p hp => (h5 p hp).elim (fun h => (hm2 p h).imp_right fun e => by subst e; simp) (fun h => .inr (by simp [h]))⟩
      by_cases h1 : o.kind = 1
      · refine fin (fset f o.key (((f o.key).getD []) ++ [o.value])) g (l ++ [o]) (abs_app h (by simp [h1])) (by simp) (fun p hp => by simpa using hp) ?_ ?_
        · rw [hX]; unfold model_State_append_f; dsimp only; rw [h.1, app_ok (by have := ls_len l o.key; omega)]; simp [h1]
        · rw [hY, happ]; simp [h1]
      · by_cases h3 : o.kind = 3
        · refine fin f (fset g o.key o.value) (l ++ [o]) (abs_wr h (by simp [h3])) (by simp) (fun p hp => by simpa using hp) ?_ ?_
          · rw [hX]; unfold model_State_write_f; simp [h3]
          · rw [hY, happ]; simp [h3]
        · refine fin f g l h (by omega) (fun p hp => .inl hp) ?_ ?_
          · rw [hX]
            by_cases hc : ((decide (o.kind > 0)) && (decide (o.kind < 5))) = true
            · rw [if_pos hc]
              simp only [Bool.and_eq_true, decide_eq_true_eq] at hc
              have : o.kind = 2 ∨ o.kind = 4 := by omega
              rcases this with e | e <;> simp [e]
            · rw [if_neg hc]
          · rw [hY]; simp [h1, h3]
    unfold model_State_Apply_l6 assayerref16_State_Apply_l3
    obtain ⟨b, hb1, hb2⟩ := right_ok h o (by omega) hf
    rw [hb1, hb2]
    simp only [Option.bind_some]
    cases blind with
    | true => exact step _ _ rfl rfl
    | false =>
      cases b with
      | false => exact .inl ⟨rfl, rfl⟩
      | true => exact step _ _ rfl rfl
end Go.Proofs.YtemdmpgekegfhaaDoor
end

section
namespace Go.Proofs.YtemdmpgekegfhaaDoor
open Go.RowKit
set_option linter.all false
set_option maxRecDepth 10000

theorem tok_len (x : List UInt8) (h : x.length ≤ 9223372036854775807) : (tok x).length ≤ x.length + 22 := by
  have := Lib.itoa_length_le (x.length : Int) (by omega) (by omega)
  unfold tok
  rw [List.length_append, List.length_cons]
  omega
theorem toks_len {B : Nat} (hB : B ≤ 9223372036854775807) : ∀ (xs : List (List UInt8)), (∀ x ∈ xs, x.length ≤ B) → (toks xs).length ≤ xs.length * (B + 22)
  | [], _ => by simp [toks]
  | x :: r, h => by
    have h1 := toks_len hB r fun y hy => h y (by simp [hy])
    have h2 := h x (by simp)
    have h3 := tok_len x (by omega)
    unfold toks at *
    rw [List.flatMap_cons, List.length_append, List.length_cons, Nat.succ_mul]
    omega
theorem ls_mem {l : List Op'} {k : ByteArray} {v : Int} (h : v ∈ ls l k) : ∃ o ∈ l, o.key = k ∧ o.value = v := by
  unfold ls at h
  obtain ⟨o, ho, e⟩ := List.mem_map.1 h
  obtain ⟨h1, h2⟩ := List.mem_filter.1 ho
  rw [key_eq] at h2
  simp only [Bool.and_eq_true, decide_eq_true_eq] at h2
  exact ⟨o, h1, h2.2, e⟩
theorem rg_mem {k : ByteArray} {v : Int} : ∀ {l : List Op'}, rg l k = some v → ∃ o ∈ l, o.key = k ∧ o.value = v
  | [], h => by cases h
  | o :: l, h => by
    unfold rg at h
    cases hr : rg l k with
    | some u =>
      rw [hr] at h
      obtain ⟨p, hp, e⟩ := rg_mem hr
      refine ⟨p, by simp [hp], e.1, ?_⟩
      rw [e.2]; simpa using h
    | none =>
      rw [hr] at h
      simp only [Option.none_or] at h
      split at h
      · rename_i hc
        rw [key_eq] at hc
        simp only [Bool.and_eq_true, decide_eq_true_eq] at hc
        exact ⟨o, by simp, hc.2, Option.some.inj h⟩
      · cases h
theorem ls_sum (l : List Op') : ∀ (ks : List (List UInt8)), ks.Nodup → (ks.map fun k => (ls l (ba k)).length).sum ≤ l.length := by
  induction l with
  | nil => intro ks _; induction ks with
    | nil => simp
    | cons k ks ih => simp_all [ls]
  | cons o l ih =>
    intro ks hnd
    have h1 := ih ks hnd
    have step : ∀ (js : List (List UInt8)), js.Nodup → (js.map fun k => (ls (o :: l) (ba k)).length).sum ≤ (js.map fun k => (ls l (ba k)).length).sum + (if byL o.key ∈ js then 1 else 0) := by
      intro js
      induction js with
      | nil => intro _; simp
      | cons k js ihj =>
        intro hj
        obtain ⟨hk, hj2⟩ := List.nodup_cons.1 hj
        have h2 := ihj hj2
        simp only [List.map_cons, List.sum_cons]
        by_cases e : byL o.key = k
        · have h3 : byL o.key ∉ js := by rw [e]; exact hk
          rw [if_neg h3] at h2
          rw [if_pos (by rw [e]; simp)]
          have h4 : (ls (o :: l) (ba k)).length ≤ (ls l (ba k)).length + 1 := by
            unfold ls; rw [List.filter_cons]; split <;> simp
          omega
        · have h4 : ls (o :: l) (ba k) = ls l (ba k) := by
            unfold ls
            rw [List.filter_cons, if_neg]
            rw [key_eq]
            intro hc
            simp only [Bool.and_eq_true, decide_eq_true_eq] at hc
            exact e (by rw [hc.2, byL_ba])
          rw [h4]
          have : (if byL o.key ∈ k :: js then 1 else 0) = (if byL o.key ∈ js then (1 : Nat) else 0) := by simp [e]
          rw [this]; omega
    have h2 := step ks hnd
    rw [List.length_cons]
    split at h2 <;> omega
theorem nodup_leG {α : Type} [DecidableEq α] : ∀ {a b : List α}, a.Nodup → (∀ x ∈ a, x ∈ b) → a.length ≤ b.length
  | [], _, _, _ => Nat.zero_le _
  | x :: a, b, h1, h2 => by
    obtain ⟨hx, hn⟩ := List.nodup_cons.1 h1
    have hb := h2 x (by simp)
    have := nodup_leG (a := a) (b := b.erase x) hn fun y hy => (List.mem_erase_of_ne (fun e => hx (by rw [← e]; exact hy))).2 (h2 y (by simp [hy]))
    rw [List.length_erase_of_mem hb] at this
    have := List.length_pos_of_mem hb
    rw [List.length_cons]; omega
theorem keys_few {β : Type} {f : ByteArray → Option β} {ks : List (List UInt8)} (hk : Keys f ks) {l : List Op'} (h : ∀ k, (f k).isSome = true → ∃ o ∈ l, o.key = k) : ks.length ≤ l.length := by
  have := nodup_leG (a := ks) (b := l.map fun o => byL o.key) hk.1 fun k hm => by
    obtain ⟨o, ho, e⟩ := h _ ((hk.2 k).1 hm)
    exact List.mem_map.2 ⟨o, ho, by rw [e, byL_ba]⟩
  simpa using this
def Okk (l : List Op') : Prop := ∀ o ∈ l, o.key.size ≤ 1048576 ∧ Kin.inI64 o.value
theorem text_ok {f : ByteArray → Option (List Int)} {g : ByteArray → Option Int} {l : List Op'} (hA : Abs f g l) (hW : Wf f g) (hl : l.length ≤ 1048576) (hk : Okk l) : model_State_Text_f ⟨f, g⟩ = some (ba (textS f g)) := by
  unfold model_State_Text_f
  refine if_pos ⟨?_, fun k v hv => ?_⟩
  · show (textS f g).length ≤ 10000000000000
    obtain ⟨ks1, h1⟩ := hW.1
    obtain ⟨ks2, h2⟩ := hW.2.1
    have hs1 : ∀ k, (f k).isSome = true → ∃ o ∈ l, o.key = k := fun k hk => by
      cases hx : f k with
      | none => rw [hx] at hk; cases hk
      | some xs =>
        have hne : xs ≠ [] := fun e => hW.2.2 k (by rw [hx, e])
        have := hA.1 k
        rw [hx] at this
        obtain ⟨v, hv⟩ := List.exists_mem_of_ne_nil xs hne
        obtain ⟨o, ho, e, _⟩ := ls_mem (l := l) (k := k) (v := v) (by rw [← this]; exact hv)
        exact ⟨o, ho, e⟩
    have hs2 : ∀ k, (g k).isSome = true → ∃ o ∈ l, o.key = k := fun k hk => by
      cases hx : g k with
      | none => rw [hx] at hk; cases hk
      | some v =>
        obtain ⟨o, ho, e, _⟩ := rg_mem (l := l) (k := k) (v := v) (by rw [← hA.2, hx])
        exact ⟨o, ho, e⟩
    have f1 := keys_few h1 hs1
    have f2 := keys_few h2 hs2
    unfold textS
    rw [keysOf_eq h1, keysOf_eq h2]
    have hlen : (textT (sortK ks1) (fun k => (f (ba k)).getD []) (sortK ks2) (fun k => (g (ba k)).getD 0)).length ≤ 6 * 1048576 := by
      unfold textT
      rw [List.length_append]
      have e1 : ∀ (F : List UInt8 → List Int) (ks : List (List UInt8)), (ks.flatMap (tokL F)).length = 2 * ks.length + (ks.map fun k => (F k).length).sum := fun F ks => by
        induction ks with
        | nil => simp
        | cons k ks ih => rw [List.flatMap_cons, List.length_append, ih]; simp only [tokL, List.length_cons, List.length_map, List.map_cons, List.sum_cons]; omega
      have e2 : ∀ (G : List UInt8 → Int) (ks : List (List UInt8)), (ks.flatMap (tokR G)).length = 3 * ks.length := fun G ks => by
        induction ks with
        | nil => simp
        | cons k ks ih => rw [List.flatMap_cons, List.length_append, ih]; simp only [tokR, List.length_cons, List.length_nil]; omega
      rw [e1, e2, (sortK_perm ks1).length_eq, (sortK_perm ks2).length_eq]
      have e3 : ((sortK ks1).map fun k => ((f (ba k)).getD []).length).sum ≤ l.length := by
        have := ls_sum l (sortK ks1) ((sortK_perm ks1).nodup_iff.2 h1.1)
        simpa only [hA.1] using this
      omega
    have hB : ∀ x ∈ textT (sortK ks1) (fun k => (f (ba k)).getD []) (sortK ks2) (fun k => (g (ba k)).getD 0), x.length ≤ 1048576 := by
      intro x hx
      unfold textT at hx
      have kb : ∀ k : List UInt8, (∃ o ∈ l, o.key = ba k) → k.length ≤ 1048576 := fun k ⟨o, ho, e⟩ => by
        have := (hk o ho).1
        rw [e] at this
        simpa [ba, ByteArray.size] using this
      have ib : ∀ v : Int, Kin.inI64 v → (Lib.itoa v).length ≤ 1048576 := fun v hv => by
        have := Lib.itoa_length_le v hv.1 hv.2; omega
      rcases List.mem_append.1 hx with hx | hx
      · obtain ⟨k, hkm, hx⟩ := List.mem_flatMap.1 hx
        have hkm := (sortK_perm ks1).mem_iff.1 hkm
        simp only [tokL, List.mem_cons] at hx
        rcases hx with rfl | rfl | hx
        · decide
        · exact kb _ (hs1 _ ((h1.2 _).1 hkm))
        · obtain ⟨v, hv, rfl⟩ := List.mem_map.1 hx
          rw [hA.1] at hv
          obtain ⟨o, ho, _, e⟩ := ls_mem hv
          exact ib v (e ▸ (hk o ho).2)
      · obtain ⟨k, hkm, hx⟩ := List.mem_flatMap.1 hx
        have hkm := (sortK_perm ks2).mem_iff.1 hkm
        have hsome := (h2.2 _).1 hkm
        simp only [tokR, List.mem_cons, List.not_mem_nil, or_false] at hx
        rcases hx with rfl | rfl | rfl
        · decide
        · exact kb _ (hs2 _ hsome)
        · cases hg : g (ba k) with
          | none => rw [hg] at hsome; cases hsome
          | some v =>
            obtain ⟨o, ho, _, e⟩ := rg_mem (l := l) (k := ba k) (v := v) (by rw [← hA.2, hg])
            exact ib v (e ▸ (hk o ho).2)
    have := toks_len (B := 1048576) (by omega) _ hB
    have h3 := Nat.mul_le_mul_right (1048576 + 22) hlen
    omega
  · have hg : g k = some v := hv
    obtain ⟨o, ho, _, e⟩ := rg_mem (l := l) (k := k) (v := v) (by rw [← hA.2, hg])
    exact e ▸ (hk o ho).2
/-- What the state has is told by the operations. -/
theorem abs_fun {f : ByteArray → Option (List Int)} {g : ByteArray → Option Int} {l : List Op'} (hA : Abs f g l) (hW : Wf f g) : f = (fun k => if ls l k = [] then none else some (ls l k)) ∧ g = rg l := by
  refine ⟨?_, funext hA.2⟩
  funext k
  have h1 := hA.1 k
  have h2 := hW.2.2 k
  cases hx : f k with
  | none => rw [hx] at h1; simp only [Option.getD_none] at h1; rw [if_pos h1.symm]
  | some xs =>
    rw [hx] at h1 h2
    simp only [Option.getD_some] at h1
    rw [← h1, if_neg (fun e => h2 (by rw [e]))]
/-- The document's states are the same. -/
def SameL (l m : List Op') : Prop := ∀ p ∈ l ++ m, rg l p.key = rg m p.key ∧ ls l p.key = ls m p.key
theorem no_key {l : List Op'} {k : ByteArray} (h : ∀ p ∈ l, p.key ≠ k) : rg l k = none ∧ ls l k = [] := by
  refine ⟨?_, ?_⟩
  · cases hr : rg l k with
    | none => rfl
    | some v => obtain ⟨o, ho, e, _⟩ := rg_mem hr; exact (h o ho e).elim
  · cases hl : ls l k with
    | nil => rfl
    | cons v r => obtain ⟨o, ho, e, _⟩ := ls_mem (l := l) (k := k) (v := v) (by rw [hl]; simp); exact (h o ho e).elim
theorem same_all {l m : List Op'} (h : SameL l m) : ls l = ls m ∧ rg l = rg m := by
  have : ∀ k, rg l k = rg m k ∧ ls l k = ls m k := fun k => by
    by_cases hk : ∃ p ∈ l ++ m, p.key = k
    · obtain ⟨p, hp, e⟩ := hk
      rw [← e]; exact h p hp
    · have h1 := no_key (l := l) (k := k) fun p hp e => hk ⟨p, by simp [hp], e⟩
      have h2 := no_key (l := m) (k := k) fun p hp e => hk ⟨p, by simp [hp], e⟩
      rw [h1.1, h1.2, h2.1, h2.2]; exact ⟨rfl, rfl⟩
  exact ⟨funext fun k => (this k).2, funext fun k => (this k).1⟩
theorem text_same {f f' : ByteArray → Option (List Int)} {g g' : ByteArray → Option Int} {l l' : List Op'} (hA : Abs f g l) (hW : Wf f g) (hA' : Abs f' g' l') (hW' : Wf f' g') : textS f g = textS f' g' ↔ SameL l l' := by
  constructor
  · intro h
    obtain ⟨rfl, rfl⟩ := textS_inj hW.1 hW'.1 hW.2.1 hW'.2.1 h
    intro p _
    rw [← hA.1, ← hA.2, ← hA'.1, ← hA'.2]; exact ⟨rfl, rfl⟩
  · intro h
    obtain ⟨h1, h2⟩ := same_all h
    obtain ⟨e1, e2⟩ := abs_fun hA hW
    obtain ⟨e3, e4⟩ := abs_fun hA' hW'
    rw [e1, e2, e3, e4, h1, h2]
theorem ba_inj {a b : List UInt8} (h : ba a = ba b) : a = b := by rw [← byL_ba a, h, byL_ba]
/-- An operation row does to both states the same. -/
theorem apply_both {f : ByteArray → Option (List Int)} {g : ByteArray → Option Int} {l r : List Op'} (hA : Abs f g l) (hW : Wf f g) (blind : Bool) (hl : l.length + r.length ≤ 2000000000000) {fuel : Nat} (hf : 2000000000001 < fuel) :
    ∃ b f' g' l', model_State_Apply_f ⟨f, g⟩ r blind = some (b, ⟨f', g'⟩) ∧ assayerref16_State_Apply_f fuel ⟨l⟩ r blind = some (b, ⟨l'⟩) ∧ Abs f' g' l' ∧ Wf f' g' ∧ l'.length ≤ l.length + r.length ∧ (∀ p ∈ l', p ∈ l ∨ p ∈ r) ∧ (b = false → f' = f ∧ g' = g ∧ l' = l) := by
  have hap : appL 64 [] l = some l := by unfold appL; rw [if_pos (by simp only [List.length_nil]; omega)]; rfl
  have hm : model_State_Apply_f ⟨f, g⟩ r blind = (model_State_Apply_l6 blind ⟨f, g⟩ 0 r f g).bind fun | .inl z6_r => (some z6_r) | .inr (z6_c4_0, z6_c4_1) => (some (true, (⟨z6_c4_0, z6_c4_1⟩ : MSt))) := rfl
  have hr : assayerref16_State_Apply_f fuel ⟨l⟩ r blind = (assayerref16_State_Apply_l3 fuel blind ⟨l⟩ 0 r l).bind fun | .inl z => some z | .inr z => some (true, (⟨z⟩ : St16)) := by
    unfold assayerref16_State_Apply_f
    dsimp only
    rw [hap]; rfl
  rcases apply_l hf blind ⟨f, g⟩ ⟨l⟩ r 0 f g l hA hl with ⟨e1, e2⟩ | ⟨f', g', l', e1, e2, hA', hl', hm'⟩
  · refine ⟨false, f, g, l, ?_, ?_, hA, hW, by omega, fun p hp => .inl hp, fun _ => ⟨rfl, rfl, rfl⟩⟩
    · rw [hm, e1]; rfl
    · rw [hr, e2]; rfl
  · have hm2 : model_State_Apply_f ⟨f, g⟩ r blind = some (true, ⟨f', g'⟩) := by rw [hm, e1]; rfl
    refine ⟨true, f', g', l', hm2, ?_, hA', apply_wf (m := ⟨f, g⟩) hW hm2, hl', hm', fun h => by cases h⟩
    rw [hr, e2]; rfl
end Go.Proofs.YtemdmpgekegfhaaDoor
end

section
namespace Go.Proofs.YtemdmpgekegfhaaDoor
open Go.RowKit
set_option linter.all false
set_option maxRecDepth 10000

theorem ops_rng {s : SH} {A : Option Addr} {n cap : Nat} {xs : List Op'} (h : kOp.Sl s (.slice A n cap) xs) : ∀ o ∈ xs, Kin.inI64 o.value := fun o ho => by
  obtain ⟨i, hi, e⟩ := List.mem_iff_getElem.1 ho
  obtain ⟨_, _, _, _, -, -, -, -, hv, -⟩ := kOp_el h (i := i) (x := o) (r := xs.drop (i + 1)) (by rw [← e]; exact List.drop_eq_getElem_cons hi)
  exact hv
theorem okk_of {s : SH} {A : Option Addr} {n cap : Nat} {xs : List Op'} (h : kOp.Sl s (.slice A n cap) xs) (hb : (xs.map szOp).sum ≤ 1048576) : Okk xs := fun o ho => ⟨bulk_keys xs hb o ho, ops_rng h o ho⟩
theorem txns_rng {s : SH} {A : Option Addr} {n cap : Nat} {xs : List Txn} (h : kT.Sl s (.slice A n cap) xs) : ∀ t ∈ xs, ∀ o ∈ t.ops, Kin.inI64 o.value := fun t ht => by
  obtain ⟨i, hi, e⟩ := List.mem_iff_getElem.1 ht
  obtain ⟨_, _, _, _, -, -, -, -, -, -, hv⟩ := kT_el h (i := i) (x := t) (r := xs.drop (i + 1)) (by rw [← e]; exact List.drop_eq_getElem_cons hi)
  exact ops_rng hv
theorem txns_keys : ∀ (l : List Txn) {n : Nat}, (l.map szT).sum ≤ n → ∀ t ∈ l, ∀ o ∈ t.ops, o.key.size ≤ n
  | [], _, _ => fun _ h => by cases h
  | t :: l, n, h => by
    simp only [List.map_cons, List.sum_cons] at h
    have h2 : szT t = (t.ops.map szOp).sum + 1 + 1 := rfl
    intro p hp o ho
    rcases List.mem_cons.1 hp with e | e
    · subst e; have := bulk_keys p.ops (Nat.le_refl _) o ho; omega
    · have := txns_keys l (n := n - szT t) (by omega) p e o ho; omega
end Go.Proofs.YtemdmpgekegfhaaDoor
end
