/- CompsOrders, walked. -/
import Derived.Test.YtemdmpgekegfhaaDoorGx2
import Derived.Test.YtemdmpgekegfhaaDoorEqI
section
namespace Go.Proofs.YtemdmpgekegfhaaDoor
set_option linter.all false

def pk (n : Nat) (E : Nat → Nat → Bool) (D : Nat → Bool) (v : Nat) : Bool := !D v && (List.range n).all fun u => D u || !E u v
def upB (D : Nat → Bool) (v : Nat) : Nat → Bool := fun x => decide (x = v) || D x
def kahn (n : Nat) (E : Nat → Nat → Bool) : Nat → (Nat → Bool) → List Int → Option (List Int)
  | 0, _, l => some l
  | k + 1, D, l => match (List.range n).find? (pk n E D) with
    | none => none
    | some v => kahn n E k (upB D v) (l ++ [(v : Int)])
def kahnR (n : Nat) (E : Nat → Nat → Bool) : Option (List Int) := kahn n E n (fun _ => false) []
theorem kahn_none {n : Nat} {E : Nat → Nat → Bool} {k : Nat} {D : Nat → Bool} {l : List Int} (h : (List.range n).find? (pk n E D) = none) : kahn n E (k + 1) D l = none := by
  simp [kahn, h]
theorem kahn_some {n : Nat} {E : Nat → Nat → Bool} {k v : Nat} {D : Nat → Bool} {l : List Int} (h : (List.range n).find? (pk n E D) = some v) : kahn n E (k + 1) D l = kahn n E k (upB D v) (l ++ [(v : Int)]) := by
  simp [kahn, h]
def cntE (n : Nat) (E : Nat → Nat → Bool) (D : Nat → Bool) (v : Nat) : Nat := ((List.range n).filter fun u => !D u && E u v).length
theorem cntE_le (n : Nat) (E : Nat → Nat → Bool) (D : Nat → Bool) (v : Nat) : cntE n E D v ≤ n := Nat.le_trans (List.length_filter_le _ _) (by simp)
theorem cntE_zero {n : Nat} {E : Nat → Nat → Bool} {D : Nat → Bool} {v : Nat} : cntE n E D v = 0 ↔ ((List.range n).all fun u => D u || !E u v) = true := by
  unfold cntE
  rw [List.length_eq_zero_iff, List.filter_eq_nil_iff, List.all_eq_true]
  constructor
  · intro h u hu
    have := h u hu
    cases h1 : D u <;> cases h2 : E u v <;> simp_all
  · intro h u hu
    have := h u hu
    cases h1 : D u <;> cases h2 : E u v <;> simp_all
theorem cnt_split (p : Nat → Bool) (v : Nat) : ∀ n, ((List.range n).filter p).length = ((List.range n).filter fun u => p u && !decide (u = v)).length + (if v < n ∧ p v = true then 1 else 0)
  | 0 => by simp
  | n + 1 => by
    rw [List.range_succ, List.filter_append, List.filter_append, List.length_append, List.length_append, cnt_split p v n]
    by_cases hv : v = n
    · subst hv
      cases hp : p v <;> simp [hp]
    · have hv2 : ¬ n = v := fun h => hv h.symm
      by_cases hp : p v = true
      · by_cases h : v < n
        · rw [if_pos ⟨h, hp⟩, if_pos ⟨by omega, hp⟩]
          cases hq : p n <;> simp [hq, hv2] <;> omega
        · rw [if_neg (fun k => h k.1), if_neg (fun k => h (by omega))]
          cases hq : p n <;> simp [hq, hv2]
      · rw [if_neg (fun k => hp k.2), if_neg (fun k => hp k.2)]
        cases hq : p n <;> simp [hq, hv2]
/-- What comps.Order keeps of the nodes that are not done. -/
def gOf (n : Nat) (E : Nat → Nat → Bool) (D : Nat → Bool) (v : Nat) : Int := if D v = true then -1 else (cntE n E D v : Int)
def Closed (n : Nat) (E : Nat → Nat → Bool) (D : Nat → Bool) : Prop := ∀ v, D v = true → ∀ u, u < n → E u v = true → D u = true
theorem gOf_zero {n : Nat} {E : Nat → Nat → Bool} {D : Nat → Bool} {v : Nat} : gOf n E D v = 0 ↔ pk n E D v = true := by
  unfold gOf pk
  cases h : D v
  · simp only [Bool.false_eq_true, if_false, Bool.not_false, Bool.true_and]
    rw [← cntE_zero]; omega
  · simp
theorem gOf_step {n : Nat} {E : Nat → Nat → Bool} {D : Nat → Bool} {v : Nat} (hc : Closed n E D) (hv : v < n) (hp : pk n E D v = true) (x : Nat) (hx : x < n) :
    gOf n E (upB D v) x = (if x = v then -1 else gOf n E D x) - (if E v x = true then 1 else 0) := by
  unfold pk at hp
  simp only [Bool.and_eq_true, Bool.not_eq_true', List.all_eq_true, List.mem_range, Bool.or_eq_true] at hp
  obtain ⟨hd, hall⟩ := hp
  by_cases e : x = v
  · subst e
    have : E x x = false := by rcases hall x hv with h | h; rw [hd] at h; cases h; exact h
    simp [gOf, upB, this]
  · rw [if_neg e]
    unfold gOf
    cases hx2 : D x
    · have h1 : upB D v x = false := by simp [upB, e, hx2]
      rw [h1]
      simp only [Bool.false_eq_true, if_false]
      unfold cntE
      have hs := cnt_split (fun u => !D u && E u x) v n
      have e2 : ((List.range n).filter fun u => !upB D v u && E u x) = ((List.range n).filter fun u => (!D u && E u x) && !decide (u = v)) := by
        apply List.filter_congr
        intro u _
        by_cases e3 : u = v <;> simp [upB, e3] <;> cases D u <;> cases E u x <;> rfl
      rw [e2]
      have hd' : D v = false := hd
      cases hE : E v x
      · rw [if_neg (fun k => by simp [hE] at k)] at hs
        simp only [Bool.false_eq_true, if_false]; omega
      · rw [if_pos ⟨hv, by simp [hd', hE]⟩] at hs
        simp only [if_true]; omega
    · have h1 : upB D v x = true := by simp [upB, hx2]
      rw [h1]
      have : E v x = false := by
        cases hE : E v x
        · rfl
        · have := hc x hx2 v hv hE; rw [hd] at this; cases this
      simp [this]
theorem closed_step {n : Nat} {E : Nat → Nat → Bool} {D : Nat → Bool} {v : Nat} (hc : Closed n E D) (hp : pk n E D v = true) : Closed n E (upB D v) := by
  intro x hx u hu hE
  unfold pk at hp
  simp only [Bool.and_eq_true, Bool.not_eq_true', List.all_eq_true, List.mem_range, Bool.or_eq_true] at hp
  unfold upB at hx ⊢
  simp only [Bool.or_eq_true, decide_eq_true_eq] at hx ⊢
  rcases hx with rfl | hx
  · rcases hp.2 u hu with h | h
    · exact .inr h
    · rw [hE] at h; cases h
  · exact .inr (hc x hx u hu hE)
theorem gOf_start (n : Nat) (E : Nat → Nat → Bool) (x : Nat) : gOf n E (fun _ => false) x = (((List.range n).filter fun u => E u x).length : Int) := by
  simp [gOf, cntE]
/-- The members, counted. -/
theorem bitsL_count (X x : Nat) : ∀ n, ((bitsL X n).count (x : Int) : Nat) = if x < n ∧ X.testBit x = true then 1 else 0
  | 0 => by simp [bitsL]
  | n + 1 => by
    have e : bitsL X (n + 1) = bitsL X n ++ (if X.testBit n = true then [(n : Int)] else []) := by
      unfold bitsL; rw [List.range_succ, List.filter_append, List.map_append]
      cases hb : X.testBit n <;> simp [hb]
    rw [e, List.count_append, bitsL_count X x n]
    by_cases h : x = n
    · subst h
      cases hb : X.testBit x <;> simp [hb]
    · have h2 : ¬ ((n : Int) = (x : Int)) := by omega
      have h4 : (x < n + 1 ∧ X.testBit x = true) = (x < n ∧ X.testBit x = true) := propext ⟨fun k => ⟨by omega, k.2⟩, fun k => ⟨by omega, k.2⟩⟩
      simp only [h4]
      cases hb : X.testBit n <;> simp [h2]
theorem bitsL_mem {X n : Nat} {z : Int} (h : z ∈ bitsL X n) : ∃ q : Nat, z = q ∧ q < n ∧ X.testBit q = true := by
  unfold bitsL at h
  obtain ⟨q, hq, rfl⟩ := List.mem_map.1 h
  rw [List.mem_filter, List.mem_range] at hq
  exact ⟨q, rfl, hq.1, hq.2⟩
/-- Is there an edge with some of the labels. -/
def edgE (M : Nat → Nat → Nat) (of : Int) (u v : Nat) : Bool := (List.range 4).any fun i => lb of i && (M u v).testBit i
theorem orK_bit {n : Nat} {F : Nat → Nat} {u v : Nat} {of : Int} : ∀ j, (orK n F u of j).testBit v = (List.range j).any fun i => lb of i && (F (i * n + u)).testBit v
  | 0 => by simp [orK]
  | j + 1 => by
    rw [List.range_succ, List.any_append]
    unfold orK
    cases h : lb of j <;> simp [h, Nat.testBit_or, orK_bit j]
theorem Rel.edge {n : Nat} {F : Nat → Nat} {M : Nat → Nat → Nat} (h : Rel n F M) {u v : Nat} (of : Int) (hu : u < n) (hv : v < n) : (orK n F u of 4).testBit v = edgE M of u v := by
  rw [orK_bit]
  unfold edgE
  apply Bool.eq_iff_iff.2
  simp only [List.any_eq_true, List.mem_range, Bool.and_eq_true]
  constructor
  · rintro ⟨i, hi, h1, h2⟩; exact ⟨i, hi, h1, by rw [← h.bit i u v hi hu hv]; exact h2⟩
  · rintro ⟨i, hi, h1, h2⟩; exact ⟨i, hi, h1, by rw [h.bit i u v hi hu hv]; exact h2⟩
theorem lb_mod (z : Int) {i : Nat} (hi : i < 4) : lb z i = ((z % 18446744073709551616).toNat).testBit i := by
  have e : z % 18446744073709551616 = ((z % 18446744073709551616).toNat : Nat) := by omega
  rw [← lb_nat, ← e]
  unfold lb
  congr 1
  have : i = 0 ∨ i = 1 ∨ i = 2 ∨ i = 3 := by omega
  rcases this with rfl | rfl | rfl | rfl <;> (apply propext; (try simp only [Int.reducePow, Int.pow_zero, Int.pow_one]); constructor <;> intro h <;> omega)
theorem and_labels (x : Nat) (hx : x < 16) (z : Int) : (bits .and .i64 (x : Int) z != 0) = (List.range 4).any fun i => lb z i && x.testBit i := by
  have e1 : bits .and .i64 (x : Int) z = ((x &&& (z % 18446744073709551616).toNat : Nat) : Int) := by
    show IntKind.i64.wrap ((BitVec.ofInt 64 (x : Int) &&& BitVec.ofInt 64 z).toNat : Int) = _
    rw [BitVec.toNat_and, BitVec.toNat_ofInt, BitVec.toNat_ofInt]
    have h1 : ((x : Int) % ((2 ^ 64 : Nat) : Int)).toNat = x := by
      rw [show ((2 ^ 64 : Nat) : Int) = 18446744073709551616 by decide]; omega
    rw [h1, show ((2 ^ 64 : Nat) : Int) = 18446744073709551616 by decide, IntKind.wrap_i64]
    have h2 : x &&& (z % 18446744073709551616).toNat ≤ x := Nat.and_le_left
    omega
  rw [e1]
  apply Bool.eq_iff_iff.2
  simp only [bne_iff_ne, ne_eq, List.any_eq_true, List.mem_range, Bool.and_eq_true]
  constructor
  · intro h
    have h0 : x &&& (z % 18446744073709551616).toNat ≠ 0 := fun e => h (by rw [e]; rfl)
    obtain ⟨i, hi⟩ := ne_zero_bit h0
    rw [Nat.testBit_and, Bool.and_eq_true] at hi
    have hi4 : i < 4 := by
      apply Nat.lt_of_not_le
      intro hle
      have := Nat.testBit_lt_two_pow (i := i) (Nat.lt_of_lt_of_le (show x < 2 ^ 4 by omega) (Nat.pow_le_pow_right (by decide) hle))
      rw [hi.1] at this; cases this
    exact ⟨i, hi4, by rw [lb_mod z hi4]; exact hi.2, hi.1⟩
  · rintro ⟨i, hi, h1, h2⟩ h
    have h0 : x &&& (z % 18446744073709551616).toNat = 0 := by omega
    have := congrArg (·.testBit i) h0
    simp only [Nat.testBit_and, Nat.zero_testBit] at this
    rw [h2, ← lb_mod z hi, h1] at this
    cases this
end Go.Proofs.YtemdmpgekegfhaaDoor
end

section
namespace Go.Proofs.YtemdmpgekegfhaaDoor
open Go.RowKit
set_option linter.all false
set_option maxRecDepth 10000

def rowZ (n : Nat) (g : Nat → Int) : Array Value := ((List.range n).map fun j => Value.int .i64 (g j)).toArray
theorem rowZ_size (n : Nat) (g : Nat → Int) : (rowZ n g).size = n := by simp [rowZ]
theorem rowZ_get {n : Nat} (g : Nat → Int) {j : Nat} (h : j < n) : (rowZ n g)[j]? = some (.int .i64 (g j)) := by simp [rowZ, h]
theorem rowZ_zero (n : Nat) : (List.replicate n (Value.int .i64 0)).toArray = rowZ n fun _ => 0 := by
  unfold rowZ
  congr 1
  apply List.ext_getElem <;> simp
theorem rowZ_congr {n : Nat} {g h : Nat → Int} (e : ∀ j, j < n → g j = h j) : rowZ n g = rowZ n h := by
  unfold rowZ
  congr 1
  exact List.map_congr_left fun j hj => by rw [e j (List.mem_range.1 hj)]
theorem rowZ_set {n : Nat} (g : Nat → Int) (j : Nat) (v : Int) : (rowZ n g).setIfInBounds j (.int .i64 v) = rowZ n (upF g j v) := by
  apply Array.ext
  · simp [rowZ]
  · intro i h1 h2
    have h3 : i < (rowZ n g).size := by simpa using h1
    rw [Array.getElem_setIfInBounds h3]
    simp only [rowZ, List.getElem_toArray, List.getElem_map, List.getElem_range]
    by_cases e : j = i
    · subst e; rw [if_pos rfl, upF_at]
    · rw [if_neg e, upF_ne _ _ (fun h => e h.symm)]
def IdxR (n : Nat) (g : Nat → Int) (r : Int) : Prop := (r = -1 ∧ ∀ j, j < n → g j ≠ 0) ∨ ∃ v : Nat, v < n ∧ r = v ∧ g v = 0 ∧ ∀ j, j < v → g j ≠ 0
set_option maxHeartbeats 1000000 in
theorem index_c {w : World} {b n : Nat} {g : Nat → Int} (hn : n ≤ 300) (hc : ∀ j, j < n → w.cell? ⟨b, j, none⟩ = some (.int .i64 (g j))) :
    Calls Tryd.prog 65 #[.slice (some ⟨b, 0, none⟩) n n, .int .i64 0] w fun e w' => ∃ r, e = .returned (.int .i64 r) ∧ w' = w ∧ IdxR n g r := by
  have HC := Lib.hid hc
  clear hc
  go_enter Tryd.func65, Tryd.ntmps65
  go_wp2
  go_loopw [8] (fun i wr => ∃ k : Nat, k ≤ n ∧ i = .int .i64 k ∧ wr = w ∧ RowKit.Hid (∀ j, j < k → g j ≠ 0)) (fun i _ => n - (intOf i).toNat)
  case atStart => exact ⟨0, Nat.zero_le _, rfl, rfl, Lib.hid fun j hj => absurd hj (Nat.not_lt_zero j)⟩
  case round =>
    obtain ⟨k, hk, rfl, rfl, hno⟩ := hrel
    by_cases hlt : k < n
    · have c1 := HC.out k hlt
      have hwk : wrap64 ((k : Int) + 1) = (k : Int) + 1 := by unfold wrap64; omega
      have hgk : ∀ z, z = g k → wr.cell? ⟨b, k, none⟩ = some (.int .i64 z) := fun z e => by rw [e]; exact c1
      by_cases hz : g k = 0
      · have c2 := hgk 0 hz.symm
        clear c1 hgk
        go_wp2
        exact ret1 rfl (rv_tmp rfl) rfl ⟨_, rfl, rfl, .inr ⟨k, hlt, rfl, hz, hno.out⟩⟩
      · clear hgk
        have hz2 : ((0 : Int) == g k) = false := by simp; omega
        go_wp2
        go_roundw
        case rel => exact ⟨k + 1, by omega, by go_num, trivial, Lib.hid fun j hj => by
          by_cases e : j = k
          · subst e; exact hz
          · exact hno.out j (by omega)⟩
        case measure => simp [intOf]; omega
    · obtain rfl : k = n := by omega
      go_wp2
      exact ret1 rfl (rv_tmp rfl) rfl ⟨_, rfl, rfl, .inl ⟨rfl, hno.out⟩⟩
end Go.Proofs.YtemdmpgekegfhaaDoor
end

section
namespace Go.Proofs.YtemdmpgekegfhaaDoor
open Go.RowKit
set_option linter.all false
set_option maxRecDepth 10000

def muS (n : Nat) (v : Value) : Nat := match v with | .slice _ k _ => n - k | _ => 0
def c1 (M : Nat → Nat → Nat) (of : Int) (k x : Nat) : Int := (((List.range k).filter fun u => edgE M of u x).length : Int)
theorem c1_le (M : Nat → Nat → Nat) (of : Int) (k x : Nat) : 0 ≤ c1 M of k x ∧ c1 M of k x ≤ k := by
  have := List.length_filter_le (fun u => edgE M of u x) (List.range k)
  simp at this
  unfold c1; omega
theorem c1_succ (M : Nat → Nat → Nat) (of : Int) (k x : Nat) : c1 M of (k + 1) x = c1 M of k x + (if edgE M of k x = true then 1 else 0) := by
  unfold c1
  rw [List.range_succ, List.filter_append, List.length_append]
  cases h : edgE M of k x <;> simp [h]
theorem count_succ {l : List Int} {t : Nat} (ht : t < l.length) (x : Int) : ((l.take (t + 1)).count x : Int) = (l.take t).count x + (if l[t] = x then 1 else 0) := by
  rw [List.take_succ_eq_append_getElem ht, List.count_append]
  by_cases h : l[t] = x
  · simp [h]
  · simp [h]
theorem count_take_le (l : List Int) (t : Nat) (x : Int) : ((l.take t).count x : Int) ≤ t := by
  have := List.count_le_length (a := x) (l := l.take t)
  have h2 : (l.take t).length ≤ t := by simp; omega
  omega
theorem Rel.count {n : Nat} {F : Nat → Nat} {M : Nat → Nat → Nat} (h : Rel n F M) (of : Int) {u x : Nat} (hu : u < n) (hx : x < n) : (((bitsL (orK n F u of 4) n).count (x : Int) : Nat) : Int) = if edgE M of u x = true then 1 else 0 := by
  rw [bitsL_count, h.edge of hu hx]
  by_cases e : edgE M of u x = true
  · rw [if_pos ⟨hx, e⟩, if_pos e]; rfl
  · rw [if_neg (fun k => e k.2), if_neg e]; rfl
set_option maxHeartbeats 4000000 in
theorem cord_c {E : World} {s : SH} {L : List HP} {w : World} {a n : Nat} {F : Nat → Nat} {M : Nat → Nat → Nat} (hn : n ≤ 300) (of : Int) (H : Holds E s L w) (hG : Gr s a n F) (hT : Tz s) (hR : Rel n F M) :
    Calls Tryd.prog 19 #[.pointer (some ⟨a, 0, none⟩), .int .i64 of] w fun e w' => ∃ v s', e = .returned (.tuple #[v, .bool (kahnR n (edgE M of)).isSome]) ∧ Sub s s' ∧ kI.Sl s' v ((kahnR n (edgE M of)).getD []) ∧ Holds E s' L w' := by
  have hk0 : ∀ i z, Tryd.prog.info? kI.e = some i → i.zero = some z → z.cells = #[Value.int .i64 0] := fun i z hi hz => by
    rw [show Tryd.prog.info? kI.e = some Tryd.t3 from info_of Tryd.type3] at hi; cases hi; cases hz; rfl
  have hm : w.cell? ⟨a, 5, none⟩ = some (.bool true) ∧ w.cell? ⟨a, 0, none⟩ = some (.int .i64 n) := by
    obtain ⟨W, ⟨R0, R1, R2, R3, hg, -⟩, -⟩ := hG
    exact ⟨gr_c H hg 5, gr_c H hg 0⟩
  have HR := Lib.hid hR
  have hM := made_c hm.1
  have hN := nodes_c hm.2
  clear hm hR
  go_enter Tryd.func19, Tryd.ntmps19
  go_wp2_with (first
    | (go_at_call 63; refine hM.mono ?_; rintro e w' ⟨rfl, rfl⟩)
    | (go_at_call 29; refine hN.mono ?_; rintro e w' ⟨rfl, rfl⟩)
    | ((with_reducible refine OpG.list rfl ?_); refine G_make1 kI_at _ _ rfl n rfl rfl (.int .i64 0) rfl hk0 (by show n * 8 ≤ _; omega) H ?_; clear H hM hN; intro b w2 H; rw [rowZ_zero] at H))
  have H : Holds E s (pt b (.cells (rowZ n (c1 M of 0)) 3 (0, 0)) :: L) w2 := H
  go_loopw [22] (fun i wr => ∃ (k : Nat) (s1 : SH), k ≤ n ∧ i = .int .i64 k ∧ Sub s s1 ∧ Holds E s1 (pt b (.cells (rowZ n (c1 M of k)) 3 (0, 0)) :: L) wr) (fun i _ => n - (intOf i).toNat)
  case atStart => exact ⟨0, s, Nat.zero_le _, rfl, Sub.refl s, H⟩
  case round =>
    clear H
    obtain ⟨k, s1, hk, rfl, hs1, H⟩ := hrel
    by_cases hlt : k < n
    · go_wp2_with (go_at_call 64; refine (out_c hn hlt H (hG.mono hs1) (hT.mono hs1) HR.out.lt).mono ?_; clear H; rintro e w' ⟨v, s2, rfl, hs2, H4⟩; obtain ⟨A2, cap2, rfl, -, -, -⟩ := H4.len; obtain ⟨s3, hs3, H5, hSl⟩ := Kin.Osl.fr H4; clear H4)
      have hcnt := fun x hx => HR.out.count of (u := k) (x := x) hlt hx
      have HCNT := Lib.hid hcnt
      have hmem := fun z hz => bitsL_mem (X := orK n F k of 4) (n := n) (z := z) hz
      have HMEM := Lib.hid hmem
      have hlen := bitsL_len (orK n F k of 4) n
      clear hcnt hmem
      generalize bitsL (orK n F k of 4) n = l at hSl HCNT HMEM hlen ⊢
      have H6 : Holds E s3 (pt b (.cells (rowZ n (fun x => c1 M of k x + ((l.take 0).count (x : Int) : Nat))) 3 (0, 0)) :: L) w' := by
        simpa using H5
      clear H5
      go_loopw [30] (fun i wr => ∃ (t : Nat), t ≤ l.length ∧ i = .int .i64 t ∧ Holds E s3 (pt b (.cells (rowZ n (fun x => c1 M of k x + ((l.take t).count (x : Int) : Nat))) 3 (0, 0)) :: L) wr) (fun i _ => l.length - (intOf i).toNat)
      case atStart => exact ⟨0, Nat.zero_le _, rfl, H6⟩
      case round =>
        clear H6
        obtain ⟨t, ht, rfl, H7⟩ := hrel
        by_cases hlt2 : t < l.length
        · obtain ⟨blk, off, cs, rfl, hK, hC⟩ := hSl.elem t hlt2
          obtain ⟨rfl, -⟩ := hK
          obtain ⟨q, hq, hqn, -⟩ := HMEM.out _ (List.getElem_mem hlt2)
          have cE : wr.cell? ⟨blk, off + t, none⟩ = some (.int .i64 (q : Int)) := by
            have := Cells.cell H7 hC 0 _ rfl
            rw [hq] at this
            simpa [Addr.add, show kI.sz = 1 from rfl] using this
          have cA : wr.cell? ⟨b, q, none⟩ = some (.int .i64 (c1 M of k q + ((l.take t).count (q : Int) : Nat))) := by
            have := H7.at_pt; simp only [World.cell?, this]; exact rowZ_get _ hqn
          have hb1 := c1_le M of k q
          have hb2 := count_take_le l t (q : Int)
          have hstep : upF (fun x => c1 M of k x + ((l.take t).count (x : Int) : Nat)) q (c1 M of k q + ((l.take t).count (q : Int) : Nat) + 1) = fun x => c1 M of k x + ((l.take (t + 1)).count (x : Int) : Nat) := by
            funext x
            rw [count_succ hlt2, hq]
            unfold upF
            by_cases e : x = q
            · subst e; rw [if_pos rfl, if_pos rfl]; omega
            · rw [if_neg e, if_neg (by omega)]; show _ = _; simp
          have HST := Lib.hid hstep
          have hqs : q < (rowZ n (fun x => c1 M of k x + ((l.take t).count (x : Int) : Nat))).size := by rw [rowZ_size]; exact hqn
          have hy : 0 ≤ c1 M of k q + ((l.take t).count (q : Int) : Nat) ∧ c1 M of k q + ((l.take t).count (q : Int) : Nat) ≤ 700 := by omega
          have hfz : wr.frozen? ⟨b, q, none⟩ = false := by have := H7.at_pt; simp [World.frozen?, this]
          clear hstep hC
          generalize c1 M of k q + ((l.take t).count (q : Int) : Nat) = y at cA HST hy
          have hwy : wrap64 (y + 1) = y + 1 := by unfold wrap64; omega
          have H8 := H7.setCell q (.int .i64 (y + 1))
          rw [rowZ_set, HST.out] at H8
          go_wp2
          refine ⟨⟨t + 1, by omega, rfl, H8⟩, ?_⟩
          simp only [intOf]; omega
        · obtain rfl : t = l.length := by omega
          rw [List.take_length] at H7
          have hrow : rowZ n (fun x => c1 M of k x + (l.count (x : Int) : Nat)) = rowZ n (c1 M of (k + 1)) := rowZ_congr fun x hx => by rw [c1_succ, HCNT.out x hx]
          rw [hrow] at H7
          go_wp2
          refine ⟨⟨k + 1, s3, by omega, rfl, (hs1.trans hs2).trans hs3, H7⟩, ?_⟩
          simp only [intOf]; omega
    · obtain rfl : k = n := by omega
      have hg : rowZ k (c1 M of k) = rowZ k (gOf k (edgE M of) fun _ => false) := rowZ_congr fun x hx => by rw [gOf_start]; rfl
      rw [hg] at H
      have H2 : Holds E s1 (kI.Osl (.slice none 0 0) [] :: pt b (.cells (rowZ k (gOf k (edgE M of) fun _ => false)) 3 (0, 0)) :: L) wr := Kin.Osl.nil H
      clear H hg
      go_wp2
      go_loopw [10] (fun v wr => ∃ (d : Nat) (D : Nat → Bool) (l : List Int) (s2 : SH), d + l.length = k ∧ Sub s s2 ∧ RowKit.Hid (kahn k (edgE M of) d D l = kahnR k (edgE M of)) ∧ RowKit.Hid (Closed k (edgE M of) D) ∧
        Holds E s2 (kI.Osl v l :: pt b (.cells (rowZ k (gOf k (edgE M of) D)) 3 (0, 0)) :: L) wr) (fun v _ => muS k v)
      case atStart => exact ⟨k, _, [], s1, rfl, hs1, Lib.hid rfl, Lib.hid (fun v hv => by cases hv), H2⟩
      case round =>
        clear H2
        obtain ⟨d, D, l, s2, hd, hs2, hK, hC, H3⟩ := hrel
        obtain ⟨A3, cap3, rfl, -, -, -⟩ := H3.len
        by_cases hlt2 : l.length < k
        · have hc : ∀ j, j < k → wr.cell? ⟨b, j, none⟩ = some (.int .i64 (gOf k (edgE M of) D j)) := fun j hj => by
            have := H3.swap.at_pt; simp only [World.cell?, this]; exact rowZ_get _ hj
          have hidx := index_c hn hc
          clear hc
          obtain ⟨d, rfl⟩ : ∃ d', d = d' + 1 := ⟨d - 1, by omega⟩
          go_wp2_with (fail)
          refine hidx.mono ?_
          clear hidx
          rintro e w' ⟨r, rfl, rfl, hr⟩
          rcases hr with ⟨rfl, hall⟩ | ⟨v, hv, rfl, hz, hfst⟩
          · have hRn : kahnR k (edgE M of) = none := by
              rw [← hK.out]
              refine kahn_none ?_
              rw [List.find?_eq_none]
              intro x hx hp
              exact hall x (List.mem_range.1 hx) (gOf_zero.2 hp)
            clear hall
            go_wp2
            refine ret2 rfl (rv_tmp rfl) (rv_tmp rfl) rfl ⟨.slice none 0 0, s2, by rw [hRn]; rfl, hs2, by rw [hRn]; exact Kin.Sl.nil, H3.drop.drop⟩
          · have hp := gOf_zero.1 hz
            have hfd : (List.range k).find? (pk k (edgE M of) D) = some v := by
              rw [List.find?_range_eq_some]
              exact ⟨hp, List.mem_range.2 hv, fun j hj => by
                have := hfst j hj
                cases hpj : pk k (edgE M of) D j
                · rfl
                · exact absurd (gOf_zero.2 hpj) this⟩
            have hK2 : RowKit.Hid (kahn k (edgE M of) d (upB D v) (l ++ [(v : Int)]) = kahnR k (edgE M of)) := Lib.hid (by rw [← hK.out]; exact (kahn_some hfd).symm)
            have hC2 := Lib.hid (closed_step hC.out hp)
            have hstp := fun x hx => gOf_step hC.out hv hp x hx
            have HSTP := Lib.hid hstp
            have hfz : w'.frozen? ⟨b, v, none⟩ = false := by have := H3.swap.at_pt; simp [World.frozen?, this]
            have hcv : w'.cell? ⟨b, v, none⟩ = some (.int .i64 (gOf k (edgE M of) D v)) := by have := H3.swap.at_pt; simp only [World.cell?, this]; exact rowZ_get _ hv
            have H4 := (H3.swap.setCell v (.int .i64 (-1))).swap
            rw [rowZ_set] at H4
            clear H3 hfst hz hK hC hp hfd hstp
            go_wp2_with (go_at_call 64; refine (out_c hn hv H4 (hG.mono hs2) (hT.mono hs2) HR.out.lt).mono ?_; clear H4 hfz hcv; rintro e w3 ⟨vo, s3, rfl, hs3, H5⟩; obtain ⟨A2, cap2, rfl, -, -, -⟩ := H5.len; obtain ⟨s4, hs4, H6, hSl⟩ := Kin.Osl.fr H5; clear H5)
            have hcnt := fun x hx => HR.out.count of (u := v) (x := x) hv hx
            have HCNT := Lib.hid hcnt
            have hmem := fun z hz => bitsL_mem (X := orK k F v of 4) (n := k) (z := z) hz
            have HMEM := Lib.hid hmem
            have hlen := bitsL_len (orK k F v of 4) k
            clear hcnt hmem
            generalize bitsL (orK k F v of 4) k = ol at hSl HCNT HMEM hlen ⊢
            have hgb : ∀ x, -1 ≤ upF (gOf k (edgE M of) D) v (-1) x ∧ upF (gOf k (edgE M of) D) v (-1) x ≤ k := fun x => by
              unfold upF gOf
              have := cntE_le k (edgE M of) D x
              split
              · omega
              · split <;> omega
            have HGB := Lib.hid hgb
            have hgx : upF (gOf k (edgE M of) D) v (-1) = fun x => if x = v then -1 else gOf k (edgE M of) D x := rfl
            clear hgb
            generalize upF (gOf k (edgE M of) D) v (-1) = g0 at H6 HGB hgx
            have H7 : Holds E s4 (kI.Osl (.slice A3 l.length cap3) l :: pt b (.cells (rowZ k (fun x => g0 x - ((ol.take 0).count (x : Int) : Nat))) 3 (0, 0)) :: L) w3 := by
              simpa using H6
            clear H6
            have HGX := Lib.hid hgx
            clear hgx
            go_loopw [59] (fun i wr => ∃ (t : Nat), t ≤ ol.length ∧ i = .int .i64 t ∧ Holds E s4 (kI.Osl (.slice A3 l.length cap3) l :: pt b (.cells (rowZ k (fun x => g0 x - ((ol.take t).count (x : Int) : Nat))) 3 (0, 0)) :: L) wr) (fun i _ => ol.length - (intOf i).toNat)
            case atStart => exact ⟨0, Nat.zero_le _, rfl, H7⟩
            case round =>
              clear H7
              obtain ⟨t, ht, rfl, H8⟩ := hrel
              by_cases hlt3 : t < ol.length
              · obtain ⟨blk, off, cs, rfl, hKK, hCC⟩ := hSl.elem t hlt3
                obtain ⟨rfl, -⟩ := hKK
                obtain ⟨q, hq, hqn, -⟩ := HMEM.out _ (List.getElem_mem hlt3)
                have cE : wr.cell? ⟨blk, off + t, none⟩ = some (.int .i64 (q : Int)) := by
                  have := Cells.cell H8 hCC 0 _ rfl
                  rw [hq] at this
                  simpa [Addr.add, show kI.sz = 1 from rfl] using this
                have cA : wr.cell? ⟨b, q, none⟩ = some (.int .i64 (g0 q - ((ol.take t).count (q : Int) : Nat))) := by
                  have := H8.swap.at_pt; simp only [World.cell?, this]; exact rowZ_get _ hqn
                have hb1 := HGB.out q
                have hb2 := count_take_le ol t (q : Int)
                have hstep : upF (fun x => g0 x - ((ol.take t).count (x : Int) : Nat)) q (g0 q - ((ol.take t).count (q : Int) : Nat) - 1) = fun x => g0 x - ((ol.take (t + 1)).count (x : Int) : Nat) := by
                  funext x
                  rw [count_succ hlt3, hq]
                  unfold upF
                  by_cases e : x = q
                  · subst e; rw [if_pos rfl, if_pos rfl]; omega
                  · rw [if_neg e, if_neg (by omega)]; show _ = _; simp
                have HST := Lib.hid hstep
                have hy : -700 ≤ g0 q - ((ol.take t).count (q : Int) : Nat) ∧ g0 q - ((ol.take t).count (q : Int) : Nat) ≤ 700 := by omega
                have hfz : wr.frozen? ⟨b, q, none⟩ = false := by have := H8.swap.at_pt; simp [World.frozen?, this]
                clear hstep hCC
                generalize g0 q - ((ol.take t).count (q : Int) : Nat) = y at cA HST hy
                have hwy : wrap64 (y - 1) = y - 1 := by unfold wrap64; omega
                have H9 := (H8.swap.setCell q (.int .i64 (y - 1))).swap
                rw [rowZ_set, HST.out] at H9
                go_wp2
                refine ⟨⟨t + 1, by omega, rfl, H9⟩, ?_⟩
                simp only [intOf]; omega
              · obtain rfl : t = ol.length := by omega
                rw [List.take_length] at H8
                have hrow : rowZ k (fun x => g0 x - (ol.count (x : Int) : Nat)) = rowZ k (gOf k (edgE M of) (upB D v)) := rowZ_congr fun x hx => by rw [HSTP.out x hx, HCNT.out x hx, HGX.out]
                rw [hrow] at H8
                have hll : l.length + 1 ≤ 300 := by omega
                go_wp2_with ((with_reducible refine OpG.list rfl ?_); first
                  | (refine G_slice1 (v := Value.int .i64 (v : Int)) rfl rfl Tryd.underlying27 Tryd.sizeOf3 Tryd.zeroValue3 rfl rfl (by decide) (by decide) H8 ?_; clear H8; intro g2 w4 H8; replace H8 := (H8.mkEmp.map (A' := kI.M (v : Int) [.int .i64 v]) fun _ h => ⟨⟨rfl, by constructor <;> omega⟩, h⟩).rot3)
                  | (refine G_append1 kI_at _ _ rfl H8 rfl rfl ?_ ?_; (case refine_1 => show (_ + 1) * 8 ≤ _; omega); clear H8; intro v5 w5 H8))
                obtain ⟨A4, cap4, rfl, -, -, -⟩ := H8.len
                refine ⟨⟨d, upB D v, l ++ [(v : Int)], s4, by simp; omega, (hs2.trans hs3).trans hs4, hK2, hC2, H8⟩, ?_⟩
                show k - (l ++ [(v : Int)]).length < k - l.length
                simp; omega
        · obtain rfl : d = 0 := by omega
          have hRs : kahnR k (edgE M of) = some l := hK.out.symm
          have hll : l.length = k := by omega
          obtain ⟨s3, hs3, H5, hSl⟩ := Kin.Osl.fr H3
          go_wp2
          exact ret2 rfl (rv_tmp rfl) (rv_tmp rfl) rfl ⟨_, s3, by rw [hRs]; rfl, hs2.trans hs3, by rw [hRs]; exact hSl, H5.drop⟩
end Go.Proofs.YtemdmpgekegfhaaDoor
end

section
namespace Go.Proofs.YtemdmpgekegfhaaDoor
open Go.RowKit
set_option linter.all false
set_option maxRecDepth 10000

theorem Xr.facts {E : World} {s : SH} {L : List HP} {w : World} {b n : Nat} {M : Nat → Nat → Nat} (H : Holds E s L w) (h : Xr s b n M) {u : Nat} (hu : u < n) : ∃ blk off c e, w.cell? ⟨b, 0, none⟩ = some (.slice (some ⟨blk, off, none⟩) n c) ∧ w.cell? ⟨blk, off + u, none⟩ = some (.slice (some ⟨e, 0, none⟩) n n) ∧ ∀ v, v < n → w.cell? ⟨e, v, none⟩ = some (.int .i64 (M u v : Nat)) := by
  obtain ⟨bs, hX, hr⟩ := h
  obtain ⟨blk, off, c, hb, hC⟩ := hX.elem hu
  refine ⟨blk, off, c, bs u, ?_, ?_, fun v hv => ?_⟩
  · have := gr_c H hb 0; simpa using this
  · have := Cells.cell H hC 0 _ rfl; simpa [Addr.add] using this
  · have := H.at_s (hr u hu); simp only [World.cell?, this]; exact rowI_get _ hv
theorem Xr.len {E : World} {s : SH} {L : List HP} {w : World} {b n : Nat} {M : Nat → Nat → Nat} (H : Holds E s L w) (h : Xr s b n M) : ∃ A c, w.cell? ⟨b, 0, none⟩ = some (.slice A n c) := by
  obtain ⟨bs, ⟨A, c, hb, -⟩, -⟩ := h
  exact ⟨A, c, by have := gr_c H hb 0; simpa using this⟩
theorem there_q {w : World} {b n c : Nat} {A : Option Addr} (c0 : w.cell? ⟨b, 0, none⟩ = some (.slice A n c)) (i : Int) : Calls Tryd.prog 111 #[.pointer (some ⟨b, 0, none⟩), .int .i64 i] w fun e w' => ∃ q, e = .returned (.bool q) ∧ w' = w ∧ (q = true ↔ 0 ≤ i ∧ i < n) :=
  (there_c c0 i).mono fun e w' ⟨he, hw⟩ => ⟨_, he, hw, by simp⟩
set_option maxHeartbeats 1000000 in
theorem labels_c {E : World} {s : SH} {L : List HP} {w : World} {b n u v : Nat} {M : Nat → Nat → Nat} (hn : n ≤ 300) (H : Holds E s L w) (h : Xr s b n M) (hu : u < n) (hv : v < n) :
    Calls Tryd.prog 114 #[.pointer (some ⟨b, 0, none⟩), .int .i64 u, .int .i64 v] w fun e w' => e = .returned (.int .i64 (M u v : Nat)) ∧ w' = w := by
  obtain ⟨blk, off, c, e, c0, c1, c2⟩ := h.facts H hu
  have c3 := c2 v hv
  have hh := there_q c0
  clear c2
  go_enter Tryd.func114, Tryd.ntmps114
  go_wp2_with (go_at_call 111; refine (hh _).mono ?_; rintro e w' ⟨q, rfl, rfl, hq⟩; have e0 : q = true := hq.2 (by omega); subst e0; clear hq)
  go_ret
  exact ⟨rfl, rfl⟩
def rowD (n : Nat) (D : Nat → Bool) : Array Value := ((List.range n).map fun j => Value.bool (D j)).toArray
theorem rowD_size (n : Nat) (D : Nat → Bool) : (rowD n D).size = n := by simp [rowD]
theorem rowD_get {n : Nat} (D : Nat → Bool) {j : Nat} (h : j < n) : (rowD n D)[j]? = some (.bool (D j)) := by simp [rowD, h]
theorem rowD_false (n : Nat) : (List.replicate n (Value.bool false)).toArray = rowD n fun _ => false := by
  unfold rowD
  congr 1
  apply List.ext_getElem <;> simp
theorem rowD_set {n : Nat} (D : Nat → Bool) (j : Nat) : (rowD n D).setIfInBounds j (.bool true) = rowD n (upB D j) := by
  apply Array.ext
  · simp [rowD]
  · intro i h1 h2
    have h3 : i < (rowD n D).size := by simpa using h1
    rw [Array.getElem_setIfInBounds h3]
    simp only [rowD, List.getElem_toArray, List.getElem_map, List.getElem_range, upB]
    by_cases e : j = i
    · subst e; simp
    · rw [if_neg e]; simp; intro h; exact absurd h.symm e
theorem kBo_at : (Kin.bool 4).At Tryd.prog 115 := ⟨Tryd.underlying115, by decide, _, _, info_of Tryd.type4, rfl, rfl, rfl, rfl⟩
def frE (n : Nat) (E : Nat → Nat → Bool) (D : Nat → Bool) (v : Nat) : Bool := (List.range n).all fun u => D u || !E u v
set_option maxHeartbeats 1000000 in
theorem free_c {E : World} {s : SH} {L : List HP} {w : World} {b n v d : Nat} {M : Nat → Nat → Nat} {D : Nat → Bool} (hn : n ≤ 300) (of : Int) (H : Holds E s L w) (h : Xr s b n M) (hM : ∀ u v, M u v < 16) (hv : v < n) (hd : ∀ j, j < n → w.cell? ⟨d, j, none⟩ = some (.bool (D j))) :
    Calls Tryd.prog 66 #[.pointer (some ⟨b, 0, none⟩), .int .i64 of, .int .i64 v, .slice (some ⟨d, 0, none⟩) n n] w fun e w' => e = .returned (.bool (frE n (edgE M of) D v)) ∧ w' = w := by
  obtain ⟨A, c, c0⟩ := h.len H
  have HD := Lib.hid hd
  have HM := Lib.hid hM
  clear hd hM
  go_enter Tryd.func66, Tryd.ntmps66
  go_wp2
  go_loopw [15] (fun i wr => ∃ k : Nat, k ≤ n ∧ i = .int .i64 k ∧ wr = w ∧ RowKit.Hid (∀ u, u < k → (D u || !edgE M of u v) = true)) (fun i _ => n - (intOf i).toNat)
  case atStart => exact ⟨0, Nat.zero_le _, rfl, rfl, Lib.hid fun j hj => absurd hj (Nat.not_lt_zero j)⟩
  case round =>
    obtain ⟨k, hk, rfl, rfl, hal⟩ := hrel
    by_cases hlt : k < n
    · have hcd := HD.out k hlt
      have hL := labels_c hn H h hlt hv
      have ha := and_labels (M k v) (HM.out k v) of
      rw [show ((List.range 4).any fun i => lb of i && (M k v).testBit i) = edgE M of k v from rfl] at ha
      cases hDk : D k with
      | true =>
        rw [hDk] at hcd
        clear hL ha
        go_wp2
        go_roundw
        case rel => exact ⟨k + 1, by omega, by go_num, trivial, Lib.hid fun u hu => by
          by_cases e : u = k
          · subst e; rw [hDk]; rfl
          · exact hal.out u (by omega)⟩
        case measure => simp [intOf]; omega
      | false =>
        rw [hDk] at hcd
        cases hE : edgE M of k v with
        | true =>
          rw [hE] at ha
          have hfin : frE n (edgE M of) D v = false := by
            unfold frE
            rw [List.all_eq_false]
            exact ⟨k, List.mem_range.2 hlt, by rw [hDk, hE]; decide⟩
          generalize M k v = m at hL ha
          go_wp2_with (go_at_call 114; refine hL.mono ?_; rintro e w' ⟨rfl, rfl⟩)
          go_ret
          rw [hfin]
          exact ⟨rfl, rfl⟩
        | false =>
          rw [hE] at ha
          generalize M k v = m at hL ha
          go_wp2_with (go_at_call 114; refine hL.mono ?_; rintro e w' ⟨rfl, rfl⟩)
          go_roundw
          case rel => exact ⟨k + 1, by omega, by go_num, trivial, Lib.hid fun u hu => by
            by_cases e : u = k
            · subst e; rw [hDk, hE]; rfl
            · exact hal.out u (by omega)⟩
          case measure => simp [intOf]; omega
    · obtain rfl : k = n := by omega
      have hfin : frE k (edgE M of) D v = true := by
        unfold frE
        rw [List.all_eq_true]
        exact fun u hu => hal.out u (List.mem_range.1 hu)
      go_wp2
      go_ret
      rw [hfin]
      exact ⟨rfl, rfl⟩
end Go.Proofs.YtemdmpgekegfhaaDoor
end

section
namespace Go.Proofs.YtemdmpgekegfhaaDoor
open Go.RowKit
set_option linter.all false
set_option maxRecDepth 10000

def NX (n : Nat) (E : Nat → Nat → Bool) (D : Nat → Bool) (j : Nat) (r : Int) : Prop := (r = -1 ∧ ∀ x, x < j → pk n E D x = false) ∨ ∃ v : Nat, v < j ∧ r = v ∧ pk n E D v = true ∧ ∀ x, x < v → pk n E D x = false
theorem NX.no {n : Nat} {E : Nat → Nat → Bool} {D : Nat → Bool} {j : Nat} {r : Int} (h : NX n E D j r) (hp : pk n E D j = false) : NX n E D (j + 1) r := by
  rcases h with ⟨rfl, h⟩ | ⟨v, hv, h⟩
  · refine .inl ⟨rfl, fun x hx => ?_⟩
    by_cases e : x = j
    · subst e; exact hp
    · exact h x (by omega)
  · exact .inr ⟨v, by omega, h⟩
theorem NX.keep {n : Nat} {E : Nat → Nat → Bool} {D : Nat → Bool} {j v : Nat} (h : NX n E D j (v : Int)) : NX n E D (j + 1) (v : Int) := by
  rcases h with ⟨h, _⟩ | ⟨v', hv, h⟩
  · omega
  · exact .inr ⟨v', by omega, h⟩
theorem pk_free {n : Nat} {E : Nat → Nat → Bool} {D : Nat → Bool} {j : Nat} (h : D j = false) : pk n E D j = frE n E D j := by unfold pk frE; rw [h]; simp
set_option maxHeartbeats 4000000 in
theorem rord_c {E : World} {s : SH} {L : List HP} {w : World} {b n : Nat} {M : Nat → Nat → Nat} (hn : n ≤ 300) (of : Int) (H : Holds E s L w) (hX : Xr s b n M) (hM : ∀ u v, M u v < 16) :
    Calls Tryd.prog 22 #[.pointer (some ⟨b, 0, none⟩), .int .i64 of] w fun e w' => ∃ v s', e = .returned (.tuple #[v, .bool (kahnR n (edgE M of)).isSome]) ∧ Sub s s' ∧ kI.Sl s' v ((kahnR n (edgE M of)).getD []) ∧ Holds E s' L w' := by
  have hk0 : ∀ i z, Tryd.prog.info? (Kin.bool 4).e = some i → i.zero = some z → z.cells = #[Value.bool false] := fun i z hi hz => by
    rw [show Tryd.prog.info? (Kin.bool 4).e = some Tryd.t4 from info_of Tryd.type4] at hi; cases hi; cases hz; rfl
  obtain ⟨A, c, c0⟩ := hX.len H
  have HM := Lib.hid hM
  clear hM
  go_enter Tryd.func22, Tryd.ntmps22
  go_wp2_with ((with_reducible refine OpG.list rfl ?_); refine G_make1 kBo_at _ _ rfl n rfl rfl (.bool false) rfl hk0 (by show n * 1 ≤ _; omega) H ?_; clear H c0; intro d w2 H; obtain ⟨A, c, c0⟩ := hX.len H; rw [rowD_false] at H)
  have H2 : Holds E s (kI.Osl (.slice none 0 0) [] :: pt d (.cells (rowD n fun _ => false) 4 (0, 0)) :: L) w2 := Kin.Osl.nil H
  clear H c0
  go_loopw [23, 7] (fun i v wr => ∃ (k : Nat) (D : Nat → Bool) (l : List Int), k ≤ n ∧ i = .int .i64 k ∧ l.length = k ∧ RowKit.Hid (kahn n (edgE M of) (n - k) D l = kahnR n (edgE M of)) ∧ Holds E s (kI.Osl v l :: pt d (.cells (rowD n D) 4 (0, 0)) :: L) wr) (fun i _ _ => n - (intOf i).toNat)
  case atStart => exact ⟨0, _, [], Nat.zero_le _, rfl, rfl, Lib.hid rfl, H2⟩
  case round =>
    clear H2
    obtain ⟨k, D, l, hk, rfl, hl, hK, H3⟩ := hrel
    obtain ⟨A3, cap3, rfl, -, -, -⟩ := H3.len
    have HLn := Lib.hid hl
    clear hl
    by_cases hlt : k < n
    · obtain ⟨A, c, c0⟩ := hX.len H3
      go_wp2
      go_loopw [30, 8] (fun i r wr2 => ∃ (j : Nat) (q : Int), j ≤ n ∧ i = .int .i64 j ∧ r = .int .i64 q ∧ wr2 = wr ∧ RowKit.Hid (NX n (edgE M of) D j q)) (fun i _ _ => n - (intOf i).toNat)
      case atStart => exact ⟨0, _, Nat.zero_le _, rfl, rfl, rfl, Lib.hid (.inl ⟨rfl, fun x hx => absurd hx (Nat.not_lt_zero x)⟩)⟩
      case round =>
        obtain ⟨j, q, hj, rfl, rfl, rfl, hNX⟩ := hrel
        by_cases hlt2 : j < n
        · have hdf : ∀ x, x < n → wr.cell? ⟨d, x, none⟩ = some (.bool (D x)) := fun x hx => by
            have := H3.swap.at_pt; simp only [World.cell?, this]; exact rowD_get _ hx
          have hcd := hdf j hlt2
          cases hD : D j with
          | true =>
            rw [hD] at hcd
            clear hdf
            have hpf : pk n (edgE M of) D j = false := by unfold pk; rw [hD]; rfl
            have hNX2 := Lib.hid (hNX.out.no hpf)
            clear hpf hNX
            go_wp2
            go_roundw
            case rel => exact ⟨j + 1, _, by omega, by go_num, rfl, trivial, hNX2⟩
            case measure => simp [intOf]; omega
          | false =>
            rw [hD] at hcd
            rcases hNX.out with ⟨rfl, hall⟩ | ⟨v, hv, rfl, -⟩
            · have hfr := free_c hn of H3 hX HM.out hlt2 hdf
              have hpf := pk_free (n := n) (E := edgE M of) hD
              clear hdf hall
              cases hF : frE n (edgE M of) D j with
              | true =>
                rw [hF] at hfr hpf
                have hNX2 : RowKit.Hid (NX n (edgE M of) D (j + 1) (j : Int)) := Lib.hid (.inr ⟨j, by omega, rfl, hpf, by rcases hNX.out with ⟨_, h⟩ | ⟨v, _, h, _⟩; exact h; omega⟩)
                clear hpf hNX hF
                go_wp2_with (go_at_call 66; refine hfr.mono ?_; rintro e w' ⟨rfl, rfl⟩)
                go_roundw
                case rel => exact ⟨j + 1, _, by omega, by go_num, rfl, trivial, hNX2⟩
                case measure => simp [intOf]; omega
              | false =>
                rw [hF] at hfr hpf
                have hNX2 := Lib.hid (hNX.out.no hpf)
                clear hpf hNX hF
                go_wp2_with (go_at_call 66; refine hfr.mono ?_; rintro e w' ⟨rfl, rfl⟩)
                go_roundw
                case rel => exact ⟨j + 1, _, by omega, by go_num, rfl, trivial, hNX2⟩
                case measure => simp [intOf]; omega
            · have hNX2 := Lib.hid hNX.out.keep
              clear hdf hNX
              go_wp2
              go_roundw
              case rel => exact ⟨j + 1, _, by omega, by go_num, rfl, trivial, hNX2⟩
              case measure => simp [intOf]; omega
        · have hjn : j = n := by omega
          rcases hNX.out with ⟨rfl, hall⟩ | ⟨v, hv, rfl, hp, hfst⟩
          · have hRn : kahnR n (edgE M of) = none := by
              rw [← hK.out, show n - k = (n - k - 1) + 1 by omega]
              refine kahn_none ?_
              rw [List.find?_eq_none]
              intro x hx hpx
              rw [hall x (by have := List.mem_range.1 hx; omega)] at hpx
              cases hpx
            clear hall hNX
            subst hjn
            go_wp2
            exact ret2 rfl (rv_tmp rfl) (rv_tmp rfl) rfl ⟨.slice none 0 0, s, by rw [hRn]; rfl, Sub.refl s, by rw [hRn]; exact Kin.Sl.nil, H3.drop.drop⟩
          · have hvn : v < n := by omega
            have hfd : (List.range n).find? (pk n (edgE M of) D) = some v := by
              rw [List.find?_range_eq_some]
              exact ⟨hp, List.mem_range.2 hvn, fun x hx => by rw [hfst x hx]; rfl⟩
            have hK2 : RowKit.Hid (kahn n (edgE M of) (n - (k + 1)) (upB D v) (l ++ [(v : Int)]) = kahnR n (edgE M of)) := Lib.hid (by
              rw [← hK.out, show n - k = (n - (k + 1)) + 1 by omega]; exact (kahn_some hfd).symm)
            have hfz : wr.frozen? ⟨d, v, none⟩ = false := by have := H3.swap.at_pt; simp [World.frozen?, this]
            have hcv : wr.cell? ⟨d, v, none⟩ = some (.bool (D v)) := by have := H3.swap.at_pt; simp only [World.cell?, this]; exact rowD_get _ hvn
            have H4 := (H3.swap.setCell v (.bool true)).swap
            rw [rowD_set] at H4
            clear H3 hNX hp hfst hfd hK c0
            have hl := HLn.out
            have hll : l.length + 1 ≤ 300 := by omega
            clear hl
            subst hjn
            go_wp2_with ((with_reducible refine OpG.list rfl ?_); first
              | (refine G_slice1 (v := Value.int .i64 (v : Int)) rfl rfl Tryd.underlying27 Tryd.sizeOf3 Tryd.zeroValue3 rfl rfl (by decide) (by decide) H4 ?_; clear H4; intro g2 w4 H4; replace H4 := (H4.mkEmp.map (A' := kI.M (v : Int) [.int .i64 v]) fun _ h => ⟨⟨rfl, by constructor <;> omega⟩, h⟩).rot3)
              | (refine G_append1 kI_at _ _ rfl H4 rfl rfl ?_ ?_; (case refine_1 => show (_ + 1) * 8 ≤ _; omega); clear H4; intro v5 w5 H4))
            obtain ⟨A4, cap4, rfl, -, -, -⟩ := H4.len
            refine ⟨⟨k + 1, upB D v, l ++ [(v : Int)], by omega, rfl, by simp [HLn.out], hK2, H4⟩, ?_⟩
            simp only [intOf]; omega
    · have hkn : k = n := by omega
      have hRs : kahnR n (edgE M of) = some l := by rw [← hK.out, show n - k = 0 by omega]; rfl
      obtain ⟨s3, hs3, H5, hSl⟩ := Kin.Osl.fr H3
      subst hkn
      go_wp2
      exact ret2 rfl (rv_tmp rfl) (rv_tmp rfl) rfl ⟨_, s3, by rw [hRs]; rfl, hs3, by rw [hRs]; exact hSl, H5.drop⟩
end Go.Proofs.YtemdmpgekegfhaaDoor
end

section
namespace Go.Proofs.YtemdmpgekegfhaaDoor
open Go.RowKit
set_option linter.all false
set_option maxRecDepth 10000

theorem Gr.made {E : World} {s : SH} {L : List HP} {w : World} {a n : Nat} {F : Nat → Nat} (H : Holds E s L w) (hG : Gr s a n F) : w.cell? ⟨a, 5, none⟩ = some (.bool true) := by
  obtain ⟨W, ⟨R0, R1, R2, R3, hg, -⟩, -⟩ := hG
  exact gr_c H hg 5
theorem ccyc_c {E : World} {s : SH} {L : List HP} {w : World} {a n : Nat} {F : Nat → Nat} {M : Nat → Nat → Nat} (hn : n ≤ 300) (of : Int) (H : Holds E s L w) (hG : Gr s a n F) (hT : Tz s) (hR : Rel n F M) :
    Calls Tryd.prog 24 #[.pointer (some ⟨a, 0, none⟩), .int .i64 of] w fun e w' => ∃ s', e = .returned (.bool (!(kahnR n (edgE M of)).isSome)) ∧ Sub s s' ∧ Holds E s' L w' := by
  have HR := Lib.hid hR
  clear hR
  go_enter Tryd.func24, Tryd.ntmps24
  go_wp2_with (first
    | (go_at_call 19; refine (cord_c hn of H hG hT HR.out).mono ?_; clear H; rintro e w' ⟨v, s1, rfl, hs1, -, H⟩)
    | (go_at_call 63; refine (made_c (Gr.made H (hG.mono hs1))).mono ?_; rintro e w' ⟨rfl, rfl⟩))
  refine ret1 rfl (rv_tmp rfl) rfl ⟨s1, ?_, hs1, H⟩
  simp
set_option maxHeartbeats 1000000 in
theorem compsOrders_w {E : World} {s : SH} {L : List HP} {w : World} (z of : Int) {v : Value} {l : List Ed} (hT : Tz s) (hl : kEd.Sl s v l) (H : Holds E s L w) :
    Calls Tryd.prog 4 #[.int .i64 z, v, .int .i64 of] w fun e w' => e = .returned (.bool true) ∧ ∃ s', Sub s s' ∧ Holds E s' L w' := by
  have hD := drawn_c z hl H
  obtain ⟨A, c, rfl, -⟩ := id hl
  go_enter Tryd.func4, Tryd.ntmps4
  go_wp2_with (first
    | (go_at_call 18; refine hD.mono ?_; clear H hD; rintro e w' ⟨a, b, n, F, M, s1, rfl, hs1, hn, hR, hG, hX, H1⟩)
    | (go_at_call 19; refine (cord_c (by omega) of H1 hG (hT.mono hs1) hR).mono ?_; clear H1; rintro e w' ⟨v1, s2, rfl, hs2, hv1, H2⟩; obtain ⟨A1, k1, e1, -⟩ := id hv1; subst e1)
    | (go_at_call 22; refine (rord_c (by omega) of H2 (hX.mono hs2) hR.lab).mono ?_; clear H2; rintro e w' ⟨v2, s3, rfl, hs3, hv2, H3⟩; obtain ⟨A2, k2, e2, -⟩ := id hv2; subst e2)
    | (go_at_call 23; refine (eqIntsD (hv1.mono hs3) hv2 H3).mono ?_; clear H3; rintro e w' ⟨rfl, H4⟩)
    | (go_at_call 24; refine (ccyc_c (by omega) of H4 ((hG.mono hs2).mono hs3) (((hT.mono hs1).mono hs2).mono hs3) hR).mono ?_; clear H4; rintro e w' ⟨s4, rfl, hs4, H5⟩))
  refine ret1 rfl (rv_tmp rfl) rfl ⟨?_, s4, ((hs1.trans hs2).trans hs3).trans hs4, H5⟩
  simp
end Go.Proofs.YtemdmpgekegfhaaDoor
end
