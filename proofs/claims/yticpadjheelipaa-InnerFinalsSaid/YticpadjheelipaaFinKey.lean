/- InnerFinals: the key [2]string, and what is looked for in the last writes. -/
import Derived.Test.YticpadjheelipaaChecksQ
namespace Go.Proofs.Yticpadjheelipaa
open Go.RowKit
set_option linter.all false
set_option maxRecDepth 10000

def nameT : Bool → ByteArray
  | true => ⟨#[108, 105, 115, 116]⟩
  | false => ⟨#[114, 101, 103, 105, 115, 116, 101, 114]⟩
def encA (t : Thing) : Value := .agg #[.string t.key, .string (nameT t.list)]
theorem nameT_len (b : Bool) : (nameT b).size ≤ maxLen := by cases b <;> (unfold nameT maxLen; decide)
theorem arr_lits (a b : ByteArray) (ha : a.size ≤ maxLen) (hb : b.size ≤ maxLen) : Try.prog.keyLits (Try.prog.types.size + 1) 34 [.string a, .string b] = some [.string a.data.toList, .string b.data.toList] := by
  have h0 : 0 < Try.prog.types.size := of_decide_eq_true (by kernel_rfl)
  obtain ⟨n, hn⟩ : ∃ n, Try.prog.types.size = n + 1 := ⟨Try.prog.types.size - 1, by omega⟩
  rw [hn]
  have hs : ∀ s : ByteArray, s.size ≤ maxLen → Try.prog.keyLits (n + 1) 9 [.string s] = some [.string s.data.toList] := fun s h => by
    unfold Program.keyLits
    rw [Try.underlying9]
    exact if_pos h
  have hc : Try.prog.cellsOf 34 = 2 := by kernel_rfl
  have h2 : Try.prog.cellsOf 9 = 1 := by kernel_rfl
  unfold Program.keyLits
  rw [Try.underlying34]
  simp only []
  rw [if_pos (by rw [hc]; rfl)]
  simp only [h2, List.range, List.range.loop, List.mapM_cons, List.mapM_nil, Nat.zero_mul, Nat.one_mul, List.drop_zero, List.drop_succ_cons, List.take_succ_cons, List.take_zero, hs a ha, hs b hb]
  rfl
theorem mk_arr : MK Try.prog 34 encA okT where
  K := Maps.Keyed.of_law (deep_law_laid thing_laid (m := 3) (by omega) (of_decide_eq_true (by kernel_rfl)) (by kernel_rfl) (by rw [Try.underlying34]))
  lit := fun a ha => by
    refine ⟨.string (keyBytes [.string a.key.data.toList, .string (nameT a.list).data.toList]), ?_⟩
    unfold keyOf
    rw [Try.underlying34]
    have hk : Try.prog.keyType 34 = true := by kernel_rfl
    have hf : Value.formed Try.prog 34 (encA a) = true := by kernel_rfl
    simp only [hk, hf, Bool.and_self, if_true]
    show ((Try.prog.keyLits (Try.prog.types.size + 1) 34 [.string a.key, .string (nameT a.list)]).map fun ls => Lit.string (keyBytes ls)) = _
    rw [arr_lits _ _ ha (nameT_len _)]; rfl
  inj := fun a b _ _ h => by
    obtain ⟨la, ka⟩ := a
    obtain ⟨lb, kb⟩ := b
    simp only [encA, Value.agg.injEq, Array.mk.injEq, List.cons.injEq, Value.string.injEq, and_true] at h
    obtain ⟨h1, h2⟩ := h
    subst h1
    have : la = lb := by
      cases la <;> cases lb <;> first | rfl | (exfalso; have := congrArg ByteArray.size h2; revert this; decide)
    rw [this]
theorem containsI {E : World} {s : SH} {L : List HP} {w : World} {v : Value} {zs : List Int} (x : Int) (hv : kI.Sl s v zs) (H : Holds E s L w) :
    Calls Try.prog 16 #[v, .int .i64 x] w fun e w' => e = .returned (.bool (zs.contains x)) ∧ Holds E s L w' := by
  have hv0 := hv
  obtain ⟨A, cap, rfl, h1, h2, -⟩ := hv
  by_cases hz : zs.length = 0
  · have : zs = [] := List.eq_nil_of_length_eq_zero hz
    subst this
    refine (Try.slices_Contains_int_empty A cap x w).mono ?_
    rintro e w' ⟨rfl, rfl⟩
    exact ⟨rfl, H⟩
  · obtain ⟨b, off, rfl, -⟩ := elemI hv0 0 (by omega)
    have h8 : zs.length * 8 ≤ 140737488355328 := h2
    refine (Try.slices_Contains_int b off zs.length cap zs x w (Nat.le_refl _) (by omega) (fun j hj => ?_)).mono ?_
    · obtain ⟨b', off', hab, hC⟩ := elemI hv0 j hj
      obtain ⟨rfl, rfl⟩ : b = b' ∧ off = off' := by simpa using hab
      obtain ⟨-, cur, e', fr, hs, hcur⟩ := hC
      have hb := H.at_s hs
      simp only [World.cell?, hb]
      have := hcur 0 _ rfl
      simp only [Nat.add_zero] at this
      simp only [Option.isSome_none, Bool.false_eq_true, if_false]
      rw [this, List.getD_eq_getElem?_getD, List.getElem?_eq_getElem hj]; rfl
    · rintro e w' ⟨rfl, rfl⟩
      exact ⟨by rw [List.take_length], H⟩
theorem fin_contains : ∀ (r : List Op') (i j : Nat) (hj : j < r.length), (refFin i r).contains ((i + j : Nat) : Int) = (writesO r[j] && lastF r[j] true (r.drop (j + 1)))
  | [], _, _, hj => by simp at hj
  | o :: r, i, 0, _ => by
    have hno : ((refFin (i + 1) r).contains ((i + 0 : Nat) : Int)) = false := by
      rw [Bool.eq_false_iff]
      intro h
      have := refFin_ge r (i + 1) _ (by simpa using h)
      omega
    simp only [refFin, List.getElem_cons_zero, Nat.zero_add, List.drop_succ_cons, List.drop_zero]
    cases hw : writesO o with
    | false => rw [if_pos (show (!false) = true from rfl), hno]; rfl
    | true =>
      rw [if_neg (show ¬ ((!true) = true) by simp)]
      cases hl : lastF o true r with
      | false => rw [if_neg (show ¬ (false = true) by simp), hno]; rfl
      | true => rw [if_pos rfl]; simp
  | o :: r, i, j + 1, hj => by
    have ih := fin_contains r (i + 1) j (by simpa using hj)
    rw [show i + 1 + j = i + (j + 1) by omega] at ih
    simp only [List.getElem_cons_succ, List.drop_succ_cons]
    rw [← ih]
    simp only [refFin]
    split
    · rfl
    · split
      · rw [List.contains_cons]
        have : (((i + (j + 1) : Nat) : Int) == (i : Int)) = false := by rw [beq_eq_false_iff_ne]; omega
        rw [this, Bool.false_or]
      · rfl
theorem wrT_cons (t : Thing) {o : Op'} {B : Bool} (hw : (o.kind == 1 || o.kind == 3) = true) (hB : (o.kind == 1) = B) (r : List Op') : (o :: r).any (wrT t) = (decide (t = ⟨B, o.key⟩) || r.any (wrT t)) := by
  rw [List.any_cons]
  congr 1
  unfold wrT
  have hof : isOf o = true := by
    unfold isOf
    simp only [Bool.or_eq_true, beq_iff_eq] at hw
    simp only [Bool.and_eq_true, decide_eq_true_eq]; omega
  have hth : thingOf o = ⟨B, o.key⟩ := by
    unfold thingOf
    have h2 : (o.kind == 2) = false := by
      simp only [Bool.or_eq_true, beq_iff_eq] at hw
      rw [beq_eq_false_iff_ne]; omega
    rw [h2, Bool.or_false, hB]
  rw [hof, hw, hth]
  by_cases e : t = ⟨B, o.key⟩
  · subst e; simp
  · rw [decide_eq_false e, decide_eq_false (fun h => e h.symm)]; rfl
theorem lastF_wr {o : Op'} {B : Bool} (hw : (o.kind == 1 || o.kind == 3) = true) (hB : (o.kind == 1) = B) (r : List Op') : lastF o true r = !r.any (wrT ⟨B, o.key⟩) := by
  have hof : isOf o = true := by
    unfold isOf
    simp only [Bool.or_eq_true, beq_iff_eq] at hw
    simp only [Bool.and_eq_true, decide_eq_true_eq]; omega
  have hth : thingOf o = ⟨B, o.key⟩ := by
    unfold thingOf
    have h2 : (o.kind == 2) = false := by
      simp only [Bool.or_eq_true, beq_iff_eq] at hw
      rw [beq_eq_false_iff_ne]; omega
    rw [h2, Bool.or_false, hB]
  rw [lastF_any, Bool.true_and]
  congr 1
  refine any_congr' fun p _ => ?_
  rw [like_b hof, hth]; unfold wrT
  cases (p.kind == 1 || p.kind == 3) <;> cases isOf p <;> cases decide (thingOf p = ⟨B, o.key⟩) <;> rfl
end Go.Proofs.Yticpadjheelipaa
