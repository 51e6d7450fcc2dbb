/- What a row hands in, as the program's data, with the bulk that it has. -/
import Derived.Test.YtemdmpgekegfhaaOpen
namespace Go.Proofs.Ytemdmpgekegfhaa
open Go.RowKit Go.ChangeShapes Go.WideShapes Go.ChangeAt
set_option linter.all false
set_option maxRecDepth 10000

def OpensB {α : Type} (P : Program) (d : Kin α) (t : TypeId) (sz : α → Nat) : Prop :=
  ∀ (H : Type) (enc : TypeId × Value → H) (W : World) (fuel : Nat) (cs : List Value) (x : DataW H × List MemPlace), DataW.trod enc P W 0 (fun _ => true) true fuel t cs = some x →
    (∀ n ∈ x.1.weights P t, n ≤ reachBytes) → ∃ y, d.K (all W) y cs ∧ sz y ≤ Rows.uptoBulk x.1
theorem bulk_pos {H : Type} (d : DataW H) : 1 ≤ Rows.uptoBulk d := by
  cases d with
  | lit l => cases l <;> simp [Rows.uptoBulk]
  | nil => simp [Rows.uptoBulk]
  | ptr d => simp [Rows.uptoBulk]
  | slice elems spare => simp [Rows.uptoBulk]
  | agg parts => simp [Rows.uptoBulk]
  | iface t d => simp [Rows.uptoBulk]
  | map entries => simp [Rows.uptoBulk]
  | held h => simp [Rows.uptoBulk]
theorem OpensB.of {α : Type} {P : Program} {d : Kin α} {t : TypeId} (h : Opens P d t) : OpensB P d t (fun _ => 1) :=
  fun H enc W fuel cs x hx hw => let ⟨y, hy⟩ := h H enc W fuel cs x hx hw; ⟨y, hy, bulk_pos _⟩
theorem bulk_sum {H : Type} {f : Nat → Nat} {D : Nat → DataW H} : ∀ (n : Nat), (∀ i, i < n → f i ≤ Rows.uptoBulk (D i)) → ((List.range n).map f).sum ≤ Rows.uptoBulkAll ((List.range n).map D)
  | 0, _ => by simp [Rows.uptoBulkAll]
  | n + 1, h => by
    have app : ∀ (l r : List (DataW H)), Rows.uptoBulkAll (l ++ r) = Rows.uptoBulkAll l + Rows.uptoBulkAll r := fun l r => by
      induction l with
      | nil => simp [Rows.uptoBulkAll]
      | cons x l ih => simp only [List.cons_append, Rows.uptoBulkAll, ih]; omega
    rw [List.range_succ, List.map_append, List.map_append, List.sum_append, app]
    have h1 := bulk_sum n fun i hi => h i (by omega)
    have h2 := h n (by omega)
    simp only [List.map_cons, List.map_nil, List.sum_cons, List.sum_nil, Rows.uptoBulkAll]
    omega
theorem opensB_slice {α : Type} {P : Program} {d : Kin α} {t e e' : TypeId} {sz : α → Nat} (ht : P.underlying t = some (.slice e)) (hc : P.cellsOf e = d.sz) (hb : P.bytesOf e = d.by_) (hd : OpensB P d e sz) : OpensB P (Kin.slice d e') t (fun l => (l.map sz).sum + 1) := by
  intro H enc W fuel cs x h hw
  rcases Go.Deep.open_slice ht h with ⟨rfl, rfl⟩ | ⟨a, len, cap, m, n, D, Pl, rfl, -, hl, hm, hmm, rfl, hx⟩
  · exact ⟨[], ⟨_, rfl, Kin.Sl.nil⟩, bulk_pos _⟩
  · simp only [if_true] at hmm
    obtain rfl : cap = m := hmm.symm
    rw [hc] at hx
    simp only [DataW.weights, ht] at hw
    have hby : cap * d.by_ ≤ 140737488351232 := by
      have := hw _ List.mem_cons_self
      rw [reach_eq, hb, List.length_map, List.length_map, List.length_range, List.length_range] at this
      have e1 : len + (cap - len) = cap := by omega
      rwa [e1] at this
    have hel : ∀ i, i < len → ∃ y : α, ∃ c, (W.cells? 0 (a.add (i * d.sz)) d.sz = some c ∧ d.K (all W) y c) ∧ sz y ≤ Rows.uptoBulk (D i) := fun i hi => by
      obtain ⟨c, h1, h2⟩ := hx i (by omega)
      obtain ⟨y, hy, hyb⟩ := hd H enc W n c (D i, Pl i) h2 fun q hq => hw q (List.mem_cons_of_mem _ (List.mem_append_left _ (weightsAll_mem (List.mem_map.2 ⟨i, List.mem_range.2 hi, rfl⟩) q hq)))
      exact ⟨y, c, ⟨h1, hy⟩, hyb⟩
    by_cases h0 : len = 0
    · subst h0
      exact ⟨[], ⟨_, rfl, some a, cap, rfl, Nat.zero_le _, by simp, fun h => absurd rfl h⟩, bulk_pos _⟩
    · have hy0 := (hel 0 (by omega)).choose
      let y : Nat → α := fun i => if hi : i < len then (hel i hi).choose else hy0
      have hy2 : ∀ i, i < len → ∃ c, (W.cells? 0 (a.add (i * d.sz)) d.sz = some c ∧ d.K (all W) (y i) c) ∧ sz (y i) ≤ Rows.uptoBulk (D i) := fun i hi => by
        have := (hel i hi).choose_spec
        simp only [y, dif_pos hi]; exact this
      have hy : ∀ i, i < len → ∃ c, W.cells? 0 (a.add (i * d.sz)) d.sz = some c ∧ d.K (all W) (y i) c := fun i hi => let ⟨c, h, _⟩ := hy2 i hi; ⟨c, h⟩
      obtain ⟨c0, hc0, _⟩ := hy 0 (by omega)
      have hcell0 := (cells_get hc0).2 0 d.szpos
      have hlen0 := (cells_get hc0).1
      have ha0 : (a.add (0 * d.sz)).add 0 = a := by simp [Addr.add]
      rw [ha0, List.getElem?_eq_getElem (by rw [hlen0]; exact d.szpos)] at hcell0
      obtain ⟨b, off, spot⟩ := a
      have hsp : spot = none := by
        unfold World.cell? at hcell0
        split at hcell0
        · cases spot with
          | none => rfl
          | some q => simp at hcell0
        · cases hcell0
      subst hsp
      have hblk : ∃ cur e2 fr, W.heap[b]? = some (.cells cur e2 fr) := by
        unfold World.cell? at hcell0
        split at hcell0
        · rename_i c e2 fr heq; exact ⟨c, e2, fr, heq⟩
        · cases hcell0
      obtain ⟨cur, e2, fr, hblk⟩ := hblk
      refine ⟨(List.range len).map y, ⟨_, rfl, some ⟨b, off, none⟩, cap, by simp, by simpa using hl, ?_, fun _ => ⟨b, off, cur, e2, fr, rfl, hblk, ?_⟩⟩, ?_⟩
      · simp only [List.length_map, List.length_range]
        have := Nat.mul_le_mul_right d.by_ hl
        omega
      · simp only [List.length_map, List.length_range]
        refine Kin.Row.of_get len fun i hi => ?_
        obtain ⟨c, h1, h2⟩ := hy i hi
        refine ⟨c, h2, fun j u hj => ?_⟩
        obtain ⟨hcl, hcg⟩ := cells_get h1
        have hjlt : j < d.sz := by rw [← hcl]; exact (List.getElem?_eq_some_iff.1 hj).1
        have := hcg j hjlt
        rw [hj] at this
        have ead : ((⟨b, off, none⟩ : Addr).add (i * d.sz)).add j = ⟨b, off + (i * d.sz + j), none⟩ := by
          unfold Addr.add; split <;> split <;> simp_all
          all_goals omega
        rw [ead] at this
        simp only [World.cell?, hblk] at this
        rw [List.getElem?_drop, Array.getElem?_toList]
        simpa using this
      · have h1 := bulk_sum (f := fun i => sz (y i)) (D := D) len fun i hi => let ⟨_, _, h⟩ := hy2 i hi; h
        simp only [List.map_map, Rows.uptoBulk]
        have : ((List.range len).map (sz ∘ y)).sum = ((List.range len).map fun i => sz (y i)).sum := rfl
        rw [this]; omega
def szOp (o : Op') : Nat := o.list.length + 1
theorem kLI_opensB : OpensB Try.prog kLI 33 (fun l => (l.map fun _ => 1).sum + 1) := opensB_slice Try.underlying33 (by kernel_rfl) (by kernel_rfl) (OpensB.of (opens_int Try.underlying3))
theorem sum_ones (l : List Int) : (l.map fun _ => 1).sum = l.length := by induction l with
  | nil => rfl
  | cons x l ih => simp [ih]; omega
theorem kOp_opensB : OpensB Try.prog kOp 35 szOp := by
  intro H enc W fuel cs x h hw
  obtain ⟨xs, n, rfl, rfl, hl, hlen, hf⟩ := DataW.trod_struct Try.underlying35 h
  have hl6 : cs.length = 6 := hl.trans (by kernel_rfl)
  have hx6 : xs.length = 6 := hlen
  match cs, hl6, xs, hx6 with
  | [c0, c1, c2, c3, c4, c5], _, [x0, x1, x2, x3, x4, x5], _ =>
    have f0 := hf 0 _ rfl
    have f1 := hf 1 _ rfl
    have f2 := hf 2 _ rfl
    have f3 := hf 3 _ rfl
    have f4 := hf 4 _ rfl
    have f5 := hf 5 _ rfl
    have hw' : ∀ (j : Nat) (t : TypeId) (d : DataW H), ([3, 9, 3, 33, 4, 4] : List TypeId)[j]? = some t → [x0.1, x1.1, x2.1, x3.1, x4.1, x5.1][j]? = some d → ∀ n ∈ d.weights Try.prog t, n ≤ reachBytes := fun j t d ht hd q hq => by
      refine hw q ?_
      have := DataW.weights_mem_each ht hd q hq
      simp only [DataW.weights, Try.underlying35]
      exact this
    obtain ⟨y0, k0⟩ := opens_int (e := 3) Try.underlying3 H enc W n [c0] x0 f0 (hw' 0 _ _ rfl rfl)
    obtain ⟨y1, k1⟩ := opens_str (e := 9) Try.underlying9 H enc W n [c1] x1 f1 (hw' 1 _ _ rfl rfl)
    obtain ⟨y2, k2⟩ := opens_int (e := 3) Try.underlying3 H enc W n [c2] x2 f2 (hw' 2 _ _ rfl rfl)
    obtain ⟨y3, k3, b3⟩ := kLI_opensB H enc W n [c3] x3 f3 (hw' 3 _ _ rfl rfl)
    obtain ⟨y4, k4⟩ := opens_bool (e := 4) Try.underlying4 H enc W n [c4] x4 f4 (hw' 4 _ _ rfl rfl)
    obtain ⟨y5, k5⟩ := opens_bool (e := 4) Try.underlying4 H enc W n [c5] x5 f5 (hw' 5 _ _ rfl rfl)
    refine ⟨⟨y0, y1, y2, y3, y4, y5⟩, ⟨[c0], [c1, c2, c3, c4, c5], rfl, k0, [c1], [c2, c3, c4, c5], rfl, k1, [c2], [c3, c4, c5], rfl, k2, [c3], [c4, c5], rfl, k3, [c4], [c5], rfl, k4, k5⟩, ?_⟩
    have b3' : (y3.map fun _ => 1).sum + 1 ≤ _ := b3
    rw [sum_ones] at b3'
    unfold szOp
    clear b3
    simp only [Rows.uptoBulk, List.map_cons, List.map_nil, Rows.uptoBulkAll]
    omega
def kLO_sz (l : List Op') : Nat := (l.map szOp).sum + 1
theorem kLO_opensB : OpensB Try.prog kLO 28 kLO_sz := opensB_slice Try.underlying28 (by kernel_rfl) (by kernel_rfl) kOp_opensB
theorem bulk_ops : ∀ (l : List Op') {n : Nat}, (l.map szOp).sum ≤ n → l.length ≤ n ∧ ∀ o ∈ l, o.list.length ≤ n
  | [], _, _ => ⟨Nat.zero_le _, fun _ h => by cases h⟩
  | o :: l, n, h => by
    simp only [List.map_cons, List.sum_cons] at h
    have h1 := bulk_ops l (n := n - szOp o) (by omega)
    have h2 : szOp o = o.list.length + 1 := rfl
    refine ⟨by simp only [List.length_cons]; omega, fun p hp => ?_⟩
    rcases List.mem_cons.1 hp with e | e
    · subst e; omega
    · have := h1.2 p e; omega
theorem len_bulk : ∀ (l : List Op'), l.length ≤ (l.map szOp).sum
  | [] => Nat.le_refl _
  | o :: l => by
    have := len_bulk l
    have h2 : szOp o = o.list.length + 1 := rfl
    simp only [List.map_cons, List.sum_cons, List.length_cons]; omega
theorem bulk_two (a b : List Op') {n : Nat} (h : (a.map szOp).sum + (b.map szOp).sum ≤ n) : a.length + b.length ≤ n := by
  have h1 := len_bulk a
  have h2 := len_bulk b
  omega
end Go.Proofs.Ytemdmpgekegfhaa
