/- CompsLeads, walked. -/
import Derived.Test.YtemdmpgekegfhaaDoorOx1
import Derived.Test.YtemdmpgekegfhaaDoorMapT
import Derived.RegionTactic
section
namespace Go.Proofs.YtemdmpgekegfhaaDoor
set_option linter.all false

theorem nodup_lenI : ∀ {a b : List Int}, a.Nodup → (∀ x ∈ a, x ∈ b) → a.length ≤ b.length
  | [], _, _, _ => Nat.zero_le _
  | x :: a, b, hn, hs => by
    rw [List.nodup_cons] at hn
    have h1 : x ∈ b := hs x List.mem_cons_self
    have h2 := nodup_lenI (a := a) (b := b.erase x) hn.2 (fun y hy => (List.mem_erase_of_ne (fun e => hn.1 (by rw [← e]; exact hy))).2 (hs y (List.mem_cons_of_mem _ hy)))
    rw [List.length_erase_of_mem h1] at h2
    have := List.length_pos_of_mem h1
    simp only [List.length_cons]; omega
structure KI_ (n : Nat) (E : Nat → Nat → Bool) (D : Nat → Bool) (l : List Int) : Prop where
  nd : l.Nodup
  dn : ∀ q : Nat, D q = true ↔ (q : Int) ∈ l
  lt : ∀ x ∈ l, ∃ q : Nat, q < n ∧ x = q
  ord : ∀ (j v u : Nat), l[j]? = some (v : Int) → u < n → E u v = true → ∃ i, i < j ∧ l[i]? = some (u : Int)
theorem KI_.step {n : Nat} {E : Nat → Nat → Bool} {D : Nat → Bool} {l : List Int} {v : Nat} (h : KI_ n E D l) (hv : v < n) (hp : pk n E D v = true) : KI_ n E (upB D v) (l ++ [(v : Int)]) := by
  unfold pk at hp
  simp only [Bool.and_eq_true, Bool.not_eq_true', List.all_eq_true, List.mem_range, Bool.or_eq_true] at hp
  obtain ⟨hd, hall⟩ := hp
  have hnm : (v : Int) ∉ l := fun hm => by have := (h.dn v).2 hm; rw [hd] at this; cases this
  refine ⟨?_, fun q => ?_, fun x hx => ?_, fun j v' u hj hu hE => ?_⟩
  · rw [List.nodup_append]
    exact ⟨h.nd, by simp, fun a ha b hb => by simp at hb; subst hb; intro e; subst e; exact hnm ha⟩
  · unfold upB
    simp only [Bool.or_eq_true, decide_eq_true_eq, List.mem_append, List.mem_singleton, h.dn q]
    constructor
    · rintro (rfl | h1)
      · exact .inr rfl
      · exact .inl h1
    · rintro (h1 | h1)
      · exact .inr h1
      · exact .inl (by omega)
  · rcases List.mem_append.1 hx with h1 | h1
    · exact h.lt x h1
    · exact ⟨v, hv, by simpa using h1⟩
  · by_cases hjl : j < l.length
    · rw [List.getElem?_append_left hjl] at hj
      obtain ⟨i, hi, hl⟩ := h.ord j v' u hj hu hE
      exact ⟨i, hi, by rw [List.getElem?_append_left (by omega)]; exact hl⟩
    · have hjl2 : j = l.length := by
        have := (List.getElem?_eq_some_iff.1 hj).1
        simp at this; omega
      subst hjl2
      rw [List.getElem?_append_right (Nat.le_refl _), Nat.sub_self] at hj
      simp at hj
      obtain rfl : v = v' := by omega
      have hDu : D u = true := by
        rcases hall u hu with h1 | h1
        · exact h1
        · rw [hE] at h1; cases h1
      obtain ⟨i, hi⟩ := List.getElem?_of_mem ((h.dn u).1 hDu)
      have hil := (List.getElem?_eq_some_iff.1 hi).1
      exact ⟨i, hil, by rw [List.getElem?_append_left hil]; exact hi⟩
theorem kahn_inv {n : Nat} {E : Nat → Nat → Bool} : ∀ {d : Nat} {D : Nat → Bool} {l r : List Int}, KI_ n E D l → kahn n E d D l = some r → ∃ D', KI_ n E D' r ∧ r.length = l.length + d
  | 0, D, l, r, h, e => by
    simp [kahn] at e; subst e; exact ⟨D, h, by simp⟩
  | d + 1, D, l, r, h, e => by
    cases hf : (List.range n).find? (pk n E D) with
    | none => rw [kahn_none hf] at e; cases e
    | some v =>
      rw [kahn_some hf] at e
      have hp := List.find?_some hf
      have hm := List.mem_range.1 (List.mem_of_find?_eq_some hf)
      obtain ⟨D', h1, h2⟩ := kahn_inv (h.step hm hp) e
      exact ⟨D', h1, by rw [h2]; simp; omega⟩
structure LeadsOn (n : Nat) (E : Nat → Nat → Bool) (l : List Int) : Prop where
  len : l.length = n
  nd : l.Nodup
  lt : ∀ x ∈ l, ∃ q : Nat, q < n ∧ x = q
  all : ∀ q : Nat, q < n → (q : Int) ∈ l
  ord : ∀ (u v : Nat), u < n → v < n → E u v = true → ∃ i j : Nat, i < j ∧ l[i]? = some (u : Int) ∧ l[j]? = some (v : Int)
theorem kahn_leads {n : Nat} {E : Nat → Nat → Bool} {l : List Int} (h : kahnR n E = some l) : LeadsOn n E l := by
  obtain ⟨D, hI, hl⟩ := kahn_inv (n := n) (E := E) (l := []) ⟨List.nodup_nil, fun q => by simp, fun x hx => by simp at hx, fun j v u hj => by simp at hj⟩ h
  have hlen : l.length = n := by simpa using hl
  have hall : ∀ q : Nat, q < n → (q : Int) ∈ l := fun q hq => by
    refine Classical.byContradiction fun hn => ?_
    have := nodup_lenI (a := (q : Int) :: l) (b := (List.range n).map fun j : Nat => (j : Int)) (List.nodup_cons.2 ⟨hn, hI.nd⟩) (fun x hx => by
      rcases List.mem_cons.1 hx with rfl | hx
      · exact List.mem_map.2 ⟨q, List.mem_range.2 hq, rfl⟩
      · obtain ⟨p, hp, rfl⟩ := hI.lt x hx
        exact List.mem_map.2 ⟨p, List.mem_range.2 hp, rfl⟩)
    simp at this; omega
  refine ⟨hlen, hI.nd, hI.lt, hall, fun u v hu hv hE => ?_⟩
  obtain ⟨j, hj⟩ := List.getElem?_of_mem (hall v hv)
  obtain ⟨i, hi, hl2⟩ := hI.ord j v u hj hu hE
  exact ⟨i, j, hi, hl2, hj⟩
end Go.Proofs.YtemdmpgekegfhaaDoor
end

section
namespace Go.Proofs.YtemdmpgekegfhaaDoor
open Go.RowKit
set_option linter.all false
set_option maxRecDepth 10000

theorem rcyc_c {E : World} {s : SH} {L : List HP} {w : World} {b n : Nat} {M : Nat → Nat → Nat} (hn : n ≤ 300) (of : Int) (H : Holds E s L w) (hX : Xr s b n M) (hM : ∀ u v, M u v < 16) :
    Calls Tryd.prog 20 #[.pointer (some ⟨b, 0, none⟩), .int .i64 of] w fun e w' => ∃ s', e = .returned (.bool (!(kahnR n (edgE M of)).isSome)) ∧ Sub s s' ∧ Holds E s' L w' := by
  have HM := Lib.hid hM
  clear hM
  go_enter Tryd.func20, Tryd.ntmps20
  go_wp2_with (go_at_call 22; refine (rord_c hn of H hX HM.out).mono ?_; clear H; rintro e w' ⟨v, s1, rfl, hs1, -, H⟩)
  refine ret1 rfl (rv_tmp rfl) rfl ⟨s1, ?_, hs1, H⟩
  simp
def IsE (n : Nat) (M : Nat → Nat → Nat) (x : Ed) : Prop := ∃ u v : Nat, u < n ∧ v < n ∧ x = ⟨u, v, (M u v : Nat)⟩
theorem star_ee {A B : HP} (hA : ∀ h, emp h → A h) (hB : ∀ h, emp h → B h) {h : SH} (he : emp h) : star A B h := star_mono hA hB (star_emp.2 he)
theorem kEd_mkM {E : World} {s : SH} {L : List HP} {w : World} (x : Ed) (h0 : Kin.inI64 x.from_) (h1 : Kin.inI64 x.to) (h2 : Kin.inI64 x.label) (H : Holds E s L w) : Holds E s (kEd.M x [.int .i64 x.from_, .int .i64 x.to, .int .i64 x.label] :: L) w :=
  H.mkEmp.map fun _ he => ⟨[_], [_, _], rfl, star_ee (fun _ e => ⟨⟨rfl, h0⟩, e⟩) (fun _ e => ⟨[_], [_], rfl, star_ee (fun _ e => ⟨⟨rfl, h1⟩, e⟩) (fun _ e => ⟨⟨rfl, h2⟩, e⟩) e⟩) he⟩
set_option maxHeartbeats 2000000 in
theorem xedges_c {E : World} {s : SH} {L : List HP} {w : World} {b n : Nat} {M : Nat → Nat → Nat} (hn : n ≤ 300) (H : Holds E s L w) (hX : Xr s b n M) (hM : ∀ u v, M u v < 16) :
    Calls Tryd.prog 21 #[.pointer (some ⟨b, 0, none⟩)] w fun e w' => ∃ v l, e = .returned v ∧ (∀ x ∈ l, IsE n M x) ∧ Holds E s (kEd.Osl v l :: L) w' := by
  have HM := Lib.hid hM
  clear hM
  obtain ⟨A, c, c0⟩ := hX.len H
  obtain ⟨bs, hXs, hr⟩ := hX
  have HRW := Lib.hid hr
  clear hr
  have H2 : Holds E s (kEd.Osl (.slice none 0 0) [] :: L) w := Kin.Osl.nil H
  clear H
  go_enter Tryd.func21, Tryd.ntmps21
  go_wp2
  go_loopw [12, 3] (fun i v wr => ∃ (u : Nat) (l : List Ed), u ≤ n ∧ i = .int .i64 u ∧ RowKit.Hid (l.length ≤ u * 300) ∧ RowKit.Hid (∀ x ∈ l, IsE n M x) ∧ Holds E s (kEd.Osl v l :: L) wr) (fun i _ _ => n - (intOf i).toNat)
  case atStart => exact ⟨0, [], Nat.zero_le _, rfl, Lib.hid (Nat.zero_le _), Lib.hid (fun x hx => by cases hx), H2⟩
  case round =>
    clear H2 c0
    obtain ⟨u, l, hu, rfl, hll, hP, H3⟩ := hrel
    obtain ⟨A3, k3, rfl, -, -, -⟩ := H3.len
    by_cases hlt : u < n
    · obtain ⟨blk, off, c, hb, hC⟩ := hXs.elem hlt
      have c0 : wr.cell? ⟨b, 0, none⟩ = some (.slice (some ⟨blk, off, none⟩) n c) := by have := gr_c H3 hb 0; simpa using this
      have c1 : wr.cell? ⟨blk, off + u, none⟩ = some (.slice (some ⟨bs u, 0, none⟩) n n) := by have := Cells.cell H3 hC 0 _ rfl; simpa [Addr.add] using this
      have hdec : decide ((u : Int) < (n : Int)) = true := by simp; omega
      go_wp2
      have H4 : Holds E s (kEd.Osl (.slice A3 l.length k3) l :: L) wr := H3
      clear H3 c0 c1
      go_loopw [23, 3] (fun j v wr2 => ∃ (t : Nat) (l2 : List Ed), t ≤ n ∧ j = .int .i64 t ∧ RowKit.Hid (l2.length ≤ u * 300 + t) ∧ RowKit.Hid (∀ x ∈ l2, IsE n M x) ∧ Holds E s (kEd.Osl v l2 :: L) wr2) (fun j _ _ => n - (intOf j).toNat)
      case atStart => exact ⟨0, l, Nat.zero_le _, rfl, Lib.hid (by have := hll.out; omega), hP, H4⟩
      case round =>
        clear H4 hll hP
        obtain ⟨t, l2, ht, rfl, hll, hP, H5⟩ := hrel
        obtain ⟨A4, k4, rfl, -, -, -⟩ := H5.len
        by_cases hlt2 : t < n
        · have c5 : wr.cell? ⟨bs u, t, none⟩ = some (.int .i64 (M u t : Nat)) := by
            have := H5.at_s (HRW.out u hlt); simp only [World.cell?, this]; exact rowI_get _ hlt2
          have hm := HM.out u t
          have hP2 : RowKit.Hid (∀ x ∈ l2 ++ [⟨(u : Int), (t : Int), ((M u t : Nat) : Int)⟩], IsE n M x) := Lib.hid fun x hx => by
            rcases List.mem_append.1 hx with h | h
            · exact hP.out x h
            · rw [List.mem_singleton.1 h]; exact ⟨u, t, hlt, hlt2, rfl⟩
          have hll2 : RowKit.Hid ((l2 ++ [(⟨(u : Int), (t : Int), ((M u t : Nat) : Int)⟩ : Ed)]).length ≤ u * 300 + (t + 1)) := Lib.hid (by have := hll.out; simp; omega)
          have hroom : (l2.length + 1) * 24 ≤ 140737488355328 := by have := hll.out; have : u * 300 ≤ 300 * 300 := Nat.mul_le_mul_right 300 (by omega); omega
          generalize M u t = m at c5 hm hP2 hll2
          by_cases hz : m = 0
          · subst hz
            go_wp2
            go_roundw
            case rel => exact ⟨t + 1, l2, by omega, by go_num, Lib.hid (by have := hll.out; omega), hP, H5⟩
            case measure => simp [intOf]; omega
          · have hmz : ((m : Int) != 0) = true := by simp; omega
            have HRO := Lib.hid hroom
            clear hP hll hroom
            go_wp2_with ((with_reducible refine OpG.list rfl ?_); first
              | (refine G_slice1 (v := Value.agg _) rfl rfl Tryd.underlying22 Tryd.sizeOf37 Tryd.zeroValue37 rfl rfl (by decide) (by decide) H5 ?_; clear H5 c5; intro g2 w4 H5; replace H5 := (kEd_mkM (⟨(u : Int), (t : Int), (m : Int)⟩ : Ed) (by constructor <;> simp <;> omega) (by constructor <;> simp <;> omega) (by constructor <;> simp <;> omega) H5).rot3)
              | (refine G_append1 kEd_at _ _ rfl H5 rfl rfl HRO.out ?_; clear H5; intro v5 w5 H5))
            refine ⟨⟨t + 1, _, by omega, rfl, hll2, hP2, H5⟩, ?_⟩
            simp only [intOf]; omega
        · have htn : t = n := by omega
          have hll3 : RowKit.Hid (l2.length ≤ (u + 1) * 300) := Lib.hid (by have := hll.out; rw [Nat.succ_mul]; omega)
          subst htn
          go_wp2
          refine ⟨⟨u + 1, l2, by omega, rfl, hll3, hP, H5⟩, ?_⟩
          simp only [intOf]; omega
    · have hun : u = n := by omega
      subst hun
      go_wp2
      exact ret1 rfl (rv_tmp rfl) rfl ⟨_, l, rfl, hP.out, H3⟩
end Go.Proofs.YtemdmpgekegfhaaDoor
end

section
namespace Go.Proofs.YtemdmpgekegfhaaDoor
open Go.RowKit
set_option linter.all false
set_option maxRecDepth 10000

theorem nd_inj {l : List Int} (h : l.Nodup) {i j : Nat} {hi : i < l.length} {hj : j < l.length} (e : l[i] = l[j]) : i = j := by
  have hp := List.pairwise_iff_getElem.1 h
  rcases Nat.lt_trichotomy i j with h1 | h1 | h1
  · exact absurd e (hp i j hi hj h1)
  · exact h1
  · exact absurd e.symm (hp j i hj hi h1)
def plc (l : List Int) (t : Nat) : List (Int × Int) := (List.range t).map fun i => (l.getD i 0, (i : Int))
theorem plc_put {l : List Int} {t : Nat} (hnd : l.Nodup) (ht : t < l.length) : mpt (plc l t) l[t] (t : Int) = plc l (t + 1) := by
  have hany : (plc l t).any (fun p => decide (p.1 = l[t])) = false := by
    rw [List.any_eq_false]
    intro p hp
    obtain ⟨i, hi, rfl⟩ := List.mem_map.1 hp
    have hit := List.mem_range.1 hi
    simp only [decide_eq_true_eq]
    intro e
    have e2 : l.getD i 0 = l[i] := by simp [List.getD, show i < l.length by omega]
    rw [e2] at e
    have := nd_inj hnd e
    omega
  unfold mpt
  rw [hany]
  simp only [Bool.false_eq_true, if_false]
  unfold plc
  rw [List.range_succ, List.map_append]
  simp [List.getD, ht]
theorem plc_get {l : List Int} (hnd : l.Nodup) : ∀ {t i : Nat}, t ≤ l.length → i < t → ∀ (hi : i < l.length), mgt (plc l t) l[i] = some (i : Int)
  | 0, i, _, h, _ => absurd h (Nat.not_lt_zero i)
  | t + 1, i, ht, h, hi => by
    rw [← plc_put hnd (by omega), mgt_put]
    by_cases e : l[i] = l[t]
    · rw [if_pos e]
      have := nd_inj hnd e
      rw [this]
    · rw [if_neg e]
      have : i ≠ t := fun h => e (by subst h; rfl)
      exact plc_get hnd (by omega) (by omega) hi
theorem plc_at {l : List Int} (hnd : l.Nodup) {i : Nat} {x : Int} (h : l[i]? = some x) : mgt (plc l l.length) x = some (i : Int) := by
  obtain ⟨hi, rfl⟩ := List.getElem?_eq_some_iff.1 h
  exact plc_get hnd (Nat.le_refl _) hi hi
theorem len_map {P : Program} {t k e ty : TypeId} (ht : P.underlying t = some (.map k e)) {b : Nat} {es : Array MapEntry} {clock : Nat} {w : World} (hb : w.heap[b]? = some (.map es clock)) :
    (Builtin.len_ #[t] ty #[.map (some b)]).run P w = .ok (.int .i64 (es.size : Int)) w := by
  simp [Builtin.len_, run_underlying ht, MapKept.run_getObj_map hb, Result.andThen, goInt]
theorem M_getI {o : Oper} {a : Act} {w : World} {Φ : Value → World → Prop} {E : World} {s : SH} {L : List HP} (i : Nat) (x y : Operand) (ho : o.op = .lookup 34 x y false) {r : Nat} {m : List (Int × Int)} {k x' : Int} (hg : mgt m k = some x') (hk : Kin.inI64 k)
    (hx : a.eval x = .map (some r)) (hy : a.eval y = .int .i64 k) (H : Holds E s L w) (hi : L[i]? = some (mpS kcI vcI r m)) (h : Φ (.int .i64 x') w) : OpG Tryd.prog o a w Φ :=
  M_get mk_I i 34 x y ho Tryd.underlying34 hk hx hy H hi (z := (0 : Int)) (Tryd.zeroValue3 _) (by rw [hg]; exact h)
set_option maxHeartbeats 4000000 in
theorem compsLeads_w {E : World} {s : SH} {L : List HP} {w : World} (z of : Int) {v : Value} {l : List Ed} (hT : Tz s) (hl : kEd.Sl s v l) (H : Holds E s L w) :
    Calls Tryd.prog 3 #[.int .i64 z, v, .int .i64 of] w fun e w' => e = .returned (.bool true) ∧ ∃ s', Sub s s' ∧ Holds E s' L w' := by
  have hD := drawn_c z hl H
  obtain ⟨A, c, rfl, -⟩ := id hl
  go_enter Tryd.func3, Tryd.ntmps3
  go_wp2_with (fail)
  refine hD.mono ?_
  clear H hD hl
  rintro e w' ⟨a, b, n, F, M, s1, rfl, hs1, hn, hR, hG, hX, H1⟩
  have HR := Lib.hid hR
  clear hR
  cases hRk : kahnR n (edgE M of) with
  | none =>
    have HRK := Lib.hid hRk
    clear hRk
    go_wp2_with (first
      | (go_at_call 19; refine (cord_c (by omega) of H1 hG (hT.mono hs1) HR.out).mono ?_; clear H1; rintro e w' ⟨v1, s2, he, hs2, hv1, H2⟩; rw [HRK.out] at he hv1; subst he; obtain ⟨A1, k1, e1, -⟩ := id hv1; subst e1)
      | (go_at_call 20; refine (rcyc_c (by omega) of H2 (hX.mono hs2) HR.out.lab).mono ?_; clear H2; rintro e w' ⟨s3, he, hs3, H3⟩; rw [HRK.out] at he; subst he; obtain ⟨A3, c3, x0⟩ := Xr.len H3 ((hX.mono hs2).mono hs3))
      | ((with_reducible refine OpG.list rfl ?_); refine M_make (K := kcI) (V := vcI) 34 rfl H3 ?_; clear H3 x0; intro r w3 H4))
    have hv2 : kI.Sl s3 (.slice A1 ([] : List Int).length k1) ([] : List Int) := hv1.mono hs3
    have H4 : Holds E s3 (mpS kcI vcI r (plc ([] : List Int) 0) :: L) w3 := H4
    clear hv1
    go_loopw [53] (fun i wr => ∃ t : Nat, t ≤ ([] : List Int).length ∧ i = .int .i64 t ∧ Holds E s3 (mpS kcI vcI r (plc ([] : List Int) t) :: L) wr) (fun i _ => ([] : List Int).length - (intOf i).toNat)
    case atStart => exact ⟨0, Nat.zero_le _, rfl, H4⟩
    case round =>
      clear H4
      obtain ⟨t, ht, rfl, H5⟩ := hrel
      by_cases hlt : t < ([] : List Int).length
      · exact absurd hlt (Nat.not_lt_zero t)
      · have htl : t = ([] : List Int).length := by omega
        subst htl
        go_wp2_with (go_at_call 21; refine (xedges_c (by omega) H5 ((hX.mono hs2).mono hs3) HR.out.lab).mono ?_; clear H5; rintro e w' ⟨ve, el, rfl, hel, H7⟩; obtain ⟨A4, k4, rfl, -, hby, -⟩ := H7.len; obtain ⟨s4, hs4, H8, hSe⟩ := Kin.Osl.fr H7; clear H7)
        have HEL := Lib.hid hel
        have hby2 : el.length ≤ 140737488355328 := by have h : el.length * 24 ≤ 140737488355328 := hby; omega
        have HBY := Lib.hid hby2
        clear hel hby
        clear hby2 hv2
        have hln : el.length ≤ 140737488355328 := HBY.out
        go_loopw [65] (fun i wr => ∃ t : Nat, t ≤ el.length ∧ i = .int .i64 t ∧ Holds E s4 (mpS kcI vcI r (plc ([] : List Int) ([] : List Int).length) :: L) wr) (fun i _ => el.length - (intOf i).toNat)
        case atStart => exact ⟨0, Nat.zero_le _, rfl, H8⟩
        case round =>
          clear H8
          obtain ⟨t, ht2, rfl, H9⟩ := hrel
          by_cases hlt2 : t < el.length
          · obtain ⟨blk, off, cs, rfl, hK, hC⟩ := hSe.elem t hlt2
            obtain ⟨u, v, hu, hv, heq⟩ := HEL.out _ (List.getElem_mem hlt2)
            rw [heq] at hK
            obtain ⟨rfl, -⟩ := kEd_op hK
            have h1 := kEd.one hK
            have hC : Cells s4 ⟨blk, off + t * 3, none⟩ _ := hC
            simp only [] at hC h1
            have ha := and_labels (M u v) (HR.out.lab u v) of
            rw [show ((List.range 4).any fun i => lb of i && (M u v).testBit i) = edgE M of u v from rfl] at ha
            clear hK heq
            clear ha
            generalize M u v = m at hC h1
            go_wp2_with (first
              | ((with_reducible refine OpG.list rfl ?_); first
                | (refine G_sN _ _ rfl (Tryd.isAgg37 _) rfl H9 hC (Tryd.sizeOf37 _) ?_)
                | (refine G_alloc 37 rfl (Tryd.zeroValue37 _) H9 ?_; clear H9; intro g w4 H9)
                | (refine G_setN _ _ _ rfl (Tryd.sizeOf37 _) rfl rfl h1 H9 rfl ?_; clear H9; intro w4 H9))
              | (refine OpG.listW rfl ?_; first
                | (refine G_p1i 0 _ _ rfl (Tryd.isAgg3 _) rfl H9 rfl rfl ?_)))
            refine ⟨⟨t + 1, by omega, rfl, H9.drop⟩, ?_⟩
            simp only [intOf]; omega
          · have htl2 : t = el.length := by omega
            subst htl2
            go_wp2
            go_region
            go_wp2
            exact ret1 rfl (rv_tmp rfl) rfl ⟨rfl, s4, ((hs1.trans hs2).trans hs3).trans hs4, H9.drop.drew⟩
  | some ol =>
    have HRK := Lib.hid hRk
    have HLO := Lib.hid (kahn_leads hRk)
    clear hRk
    go_wp2_with (first
      | (go_at_call 19; refine (cord_c (by omega) of H1 hG (hT.mono hs1) HR.out).mono ?_; clear H1; rintro e w' ⟨v1, s2, he, hs2, hv1, H2⟩; rw [HRK.out] at he hv1; subst he; obtain ⟨A1, k1, e1, -⟩ := id hv1; subst e1)
      | (go_at_call 20; refine (rcyc_c (by omega) of H2 (hX.mono hs2) HR.out.lab).mono ?_; clear H2; rintro e w' ⟨s3, he, hs3, H3⟩; rw [HRK.out] at he; subst he; obtain ⟨A3, c3, x0⟩ := Xr.len H3 ((hX.mono hs2).mono hs3); have hlen := HLO.out.len)
      | ((with_reducible refine OpG.list rfl ?_); refine M_make (K := kcI) (V := vcI) 34 rfl H3 ?_; clear H3 x0; intro r w3 H4))
    have hv2 : kI.Sl s3 (.slice A1 ol.length k1) ol := hv1.mono hs3
    have H4 : Holds E s3 (mpS kcI vcI r (plc ol 0) :: L) w3 := H4
    clear hv1
    have hlen2 := HLO.out.len
    go_loopw [53] (fun i wr => ∃ t : Nat, t ≤ ol.length ∧ i = .int .i64 t ∧ Holds E s3 (mpS kcI vcI r (plc ol t) :: L) wr) (fun i _ => ol.length - (intOf i).toNat)
    case atStart => exact ⟨0, Nat.zero_le _, rfl, H4⟩
    case round =>
      clear H4
      obtain ⟨t, ht, rfl, H5⟩ := hrel
      by_cases hlt : t < ol.length
      · obtain ⟨blk, off, cs, rfl, hK, hC⟩ := hv2.elem t hlt
        obtain ⟨rfl, hin⟩ := hK
        have cE : wr.cell? ⟨blk, off + t, none⟩ = some (.int .i64 ol[t]) := by
          have := Cells.cell H5 hC 0 _ rfl
          simpa [Addr.add, show kI.sz = 1 from rfl] using this
        have hput := Lib.hid (plc_put HLO.out.nd hlt)
        generalize ol[t] = m at cE hin hput
        go_wp2_with ((with_reducible refine OpG.list rfl ?_); (refine M_put mk_I 0 34 _ _ _ rfl Tryd.underlying34 hin trivial rfl rfl rfl H5 rfl ?_; clear H5 cE; intro w6 H6; simp only [List.set_cons_zero] at H6; rw [hput.out] at H6))
        refine ⟨⟨t + 1, by omega, rfl, H6⟩, ?_⟩
        simp only [intOf]; omega
      · have htl : t = ol.length := by omega
        subst htl
        go_wp2_with (go_at_call 21; refine (xedges_c (by omega) H5 ((hX.mono hs2).mono hs3) HR.out.lab).mono ?_; clear H5; rintro e w' ⟨ve, el, rfl, hel, H7⟩; obtain ⟨A4, k4, rfl, -, hby, -⟩ := H7.len; obtain ⟨s4, hs4, H8, hSe⟩ := Kin.Osl.fr H7; clear H7)
        have HEL := Lib.hid hel
        have hby2 : el.length ≤ 140737488355328 := by have h : el.length * 24 ≤ 140737488355328 := hby; omega
        have HBY := Lib.hid hby2
        clear hel hby
        clear hby2 hv2 hlen hlen2
        have hln : el.length ≤ 140737488355328 := HBY.out
        go_loopw [65] (fun i wr => ∃ t : Nat, t ≤ el.length ∧ i = .int .i64 t ∧ Holds E s4 (mpS kcI vcI r (plc ol ol.length) :: L) wr) (fun i _ => el.length - (intOf i).toNat)
        case atStart => exact ⟨0, Nat.zero_le _, rfl, H8⟩
        case round =>
          clear H8
          obtain ⟨t, ht2, rfl, H9⟩ := hrel
          by_cases hlt2 : t < el.length
          · obtain ⟨blk, off, cs, rfl, hK, hC⟩ := hSe.elem t hlt2
            obtain ⟨u, v, hu, hv, heq⟩ := HEL.out _ (List.getElem_mem hlt2)
            rw [heq] at hK
            obtain ⟨rfl, -⟩ := kEd_op hK
            have h1 := kEd.one hK
            have hC : Cells s4 ⟨blk, off + t * 3, none⟩ _ := hC
            simp only [] at hC h1
            have ha := and_labels (M u v) (HR.out.lab u v) of
            rw [show ((List.range 4).any fun i => lb of i && (M u v).testBit i) = edgE M of u v from rfl] at ha
            clear hK heq
            cases hE : edgE M of u v with
            | false =>
              rw [hE] at ha
              generalize M u v = m at hC h1 ha
              go_wp2_with (first
                | ((with_reducible refine OpG.list rfl ?_); first
                  | (refine G_sN _ _ rfl (Tryd.isAgg37 _) rfl H9 hC (Tryd.sizeOf37 _) ?_)
                  | (refine G_alloc 37 rfl (Tryd.zeroValue37 _) H9 ?_; clear H9; intro g w4 H9)
                  | (refine G_setN _ _ _ rfl (Tryd.sizeOf37 _) rfl rfl h1 H9 rfl ?_; clear H9; intro w4 H9))
                | (refine OpG.listW rfl ?_; first
                  | (refine G_p1i 0 _ _ rfl (Tryd.isAgg3 _) rfl H9 rfl rfl ?_)))
              refine ⟨⟨t + 1, by omega, rfl, H9.drop⟩, ?_⟩
              simp only [intOf]; omega
            | true =>
              rw [hE] at ha
              obtain ⟨i, j, hij, hi, hj⟩ := HLO.out.ord u v hu hv hE
              have hgu := Lib.hid (plc_at HLO.out.nd hi)
              have hgv := Lib.hid (plc_at HLO.out.nd hj)
              have hui : Kin.inI64 (u : Int) := by constructor <;> omega
              have hvi : Kin.inI64 (v : Int) := by constructor <;> omega
              have hge : decide ((j : Int) ≤ (i : Int)) = false := by simp; omega
              have hge2 : ¬ (j ≤ i) := by omega
              clear hi hj
              generalize M u v = m at hC h1 ha
              go_wp2_with (first
                | ((with_reducible refine OpG.list rfl ?_); first
                  | (refine G_sN _ _ rfl (Tryd.isAgg37 _) rfl H9 hC (Tryd.sizeOf37 _) ?_)
                  | (refine G_alloc 37 rfl (Tryd.zeroValue37 _) H9 ?_; clear H9; intro g w4 H9)
                  | (refine G_setN _ _ _ rfl (Tryd.sizeOf37 _) rfl rfl h1 H9 rfl ?_; clear H9; intro w4 H9))
                | (refine OpG.listW rfl ?_; first
                  | (refine G_p1i 0 _ _ rfl (Tryd.isAgg3 _) rfl H9 rfl rfl ?_)
                  | (refine M_getI 1 _ _ rfl hgu.out hui rfl rfl H9 rfl ?_)
                  | (refine M_getI 1 _ _ rfl hgv.out hvi rfl rfl H9 rfl ?_)))
              refine ⟨⟨t + 1, by omega, rfl, H9.drop⟩, ?_⟩
              simp only [intOf]; omega
          · have htl2 : t = el.length := by omega
            subst htl2
            go_wp2
            obtain ⟨A5, c5, x5⟩ := Xr.len H9 ((((hX.mono hs2).mono hs3).mono hs4))
            obtain ⟨-, H10⟩ := mps_open (i := 0) (K := kcI) (V := vcI) (r := r) (m := plc ol ol.length) H9 rfl
            obtain ⟨es, cc, ⟨he, -⟩, H11⟩ := mp_open H10
            have hmp := H11.at_pt
            have hsz : es.size = n := by
              have := congrArg List.length he
              simp [em, plc] at this
              rw [← HLO.out.len]; exact this
            have hlm := len_map (ty := 3) Tryd.underlying34 (H11.drew.at_pt)
            rw [hsz] at hlm
            go_region
            go_wp2
            exact ret1 rfl (rv_tmp rfl) rfl ⟨rfl, s4, ((hs1.trans hs2).trans hs3).trans hs4, H9.drop.drew⟩
end Go.Proofs.YtemdmpgekegfhaaDoor
end
