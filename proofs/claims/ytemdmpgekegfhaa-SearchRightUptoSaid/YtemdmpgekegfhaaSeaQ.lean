/- Whether an order shows that a history is strictly serializable: the plain law of SearchRight. -/
import Derived.Test.YtemdmpgekegfhaaSea4
import Derived.Test.YtemdmpgekegfhaaRange
namespace Go.Proofs.Ytemdmpgekegfhaa
open Go.RowKit
set_option linter.all false
set_option maxRecDepth 10000

theorem key_eq (a b : ByteArray) : (a.toList == b.toList) = decide (a = b) := by
  by_cases h : a = b
  · subst h; simp
  · have : a.toList ≠ b.toList := fun e => h (by
      have := congrArg List.length e
      apply ByteArray.ext
      apply Array.toList_inj.1
      simpa [ByteArray.toList_eq] using e)
    simp [h, this]
def ls (l : List Op') (k : ByteArray) : List Int := (l.filter fun o => o.kind == 1 && o.key.toList == k.toList).map (·.value)
def rg : List Op' → ByteArray → Option Int
  | [], _ => none
  | o :: l, k => (rg l k).or (if o.kind == 3 && o.key.toList == k.toList then some o.value else none)
theorem rg_snoc (l : List Op') (o : Op') (k : ByteArray) : rg (l ++ [o]) k = if o.kind == 3 && o.key.toList == k.toList then some o.value else rg l k := by
  induction l with
  | nil => simp [rg]
  | cons p l ih =>
    simp only [List.cons_append, rg, ih]
    split <;> simp
theorem ls_snoc (l : List Op') (o : Op') (k : ByteArray) : ls (l ++ [o]) k = if o.kind == 1 && o.key.toList == k.toList then ls l k ++ [o.value] else ls l k := by
  unfold ls
  rw [List.filter_append, List.map_append]
  by_cases h : (o.kind == 1 && o.key.toList == k.toList) = true
  · simp [h]
  · simp [h]
theorem ls_len (l : List Op') (k : ByteArray) : (ls l k).length ≤ l.length := by unfold ls; rw [List.length_map]; exact List.length_filter_le _ _
theorem app_ok {α : Type} {by_ : Nat} {xs : List α} {x : α} (h : (xs.length + 1) * by_ ≤ 140737488355328) : app by_ xs x = some (xs ++ [x]) := if_pos h
theorem rdI_ok {α : Type} {xs : List α} {k : Nat} {x : α} {r : List α} (h : xs.drop k = x :: r) : rdI xs (k : Int) = some x := by
  unfold rdI
  rw [if_pos (by omega)]
  have hk : k < xs.length := Classical.byContradiction fun hn => by rw [List.drop_of_length_le (by omega)] at h; cases h
  rw [List.drop_eq_getElem_cons hk] at h
  rw [show ((k : Int)).toNat = k from by omega, List.getElem?_eq_getElem hk, (List.cons.inj h).1]
theorem list_l (a1 : ByteArray) : ∀ (r : List Op') (k : Nat) (ys : List Int), ys.length + r.length ≤ 2000000000000 → assayerref16_State_List_l3 a1 k r ys = some (ys ++ ls r a1)
  | [], k, ys, _ => by simp [assayerref16_State_List_l3, ls]
  | x :: r, k, ys, h => by
    simp only [List.length_cons] at h
    unfold assayerref16_State_List_l3
    by_cases hx : (x.kind == 1 && x.key.toList == a1.toList) = true
    · rw [if_pos hx, app_ok (by omega)]
      simp only [Option.bind_some]
      rw [list_l a1 r (k + 1) _ (by rw [List.length_append, List.length_singleton]; omega)]
      unfold ls; rw [List.filter_cons, if_pos hx]; simp
    · rw [if_neg hx, list_l a1 r (k + 1) _ (by omega)]
      unfold ls; rw [List.filter_cons, if_neg hx]
theorem list_ok (l : List Op') (k : ByteArray) (h : l.length ≤ 2000000000000) : assayerref16_State_List_f ⟨l⟩ k = some (ls l k) := by
  unfold assayerref16_State_List_f
  rw [list_l k l 0 [] (by simpa using h)]; rfl
theorem wrap_small {i : Int} (h1 : -9223372036854775808 ≤ i) (h2 : i ≤ 9223372036854775807) : IntKind.i64.wrap i = i := by
  have e1 : (2 : Int) ^ (64 - 1) = 9223372036854775808 := rfl
  simp only [IntKind.wrap, IntKind.bits, IntKind.signed, Bool.true_and, decide_eq_true_eq, e1]
  split <;> omega
theorem val_l (l : List Op') (k : ByteArray) (hl : l.length ≤ 2000000000000) : ∀ (n fuel : Nat), n ≤ l.length → n < fuel → assayerref16_State_Value_l2 ⟨l⟩ k fuel ((n : Int) - 1) = some (match rg (l.take n) k with | some v => .inl (v, true) | none => .inr ())
  | n, 0, _, h => by omega
  | 0, f + 1, _, _ => by
    unfold assayerref16_State_Value_l2
    rw [if_neg (by simp)]; rfl
  | n + 1, f + 1, h1, h2 => by
    unfold assayerref16_State_Value_l2
    have hn : n < l.length := by omega
    rw [if_pos (by simp), show ((n + 1 : Nat) : Int) - 1 = (n : Int) from by omega, rdI_ok (List.drop_eq_getElem_cons hn)]
    simp only [Option.bind_some]
    rw [List.take_succ_eq_append_getElem hn, rg_snoc]
    by_cases hx : (l[n].kind == 3 && l[n].key.toList == k.toList) = true
    · rw [if_pos hx, if_pos hx]
    · rw [if_neg hx, if_neg hx, wrap_small (by omega) (by omega), val_l l k hl n f (by omega) (by omega)]
theorem val_ok (l : List Op') (k : ByteArray) (hl : l.length ≤ 2000000000000) {fuel : Nat} (hf : 2000000000001 < fuel) : assayerref16_State_Value_f fuel ⟨l⟩ k = some ((rg l k).getD 0, (rg l k).isSome) := by
  unfold assayerref16_State_Value_f
  rw [wrap_small (by simp only; omega) (by simp only; omega), val_l l k hl l.length fuel (Nat.le_refl _) (by omega), List.take_length]
  cases rg l k <;> rfl
theorem eqA (ys : List Int) : ∀ (r : List Int) (k : Nat), k + r.length = ys.length → slices_Equal_I_l4 ys k r = some (if r = ys.drop k then .inr () else .inl false)
  | [], k, h => by
    unfold slices_Equal_I_l4
    rw [List.drop_of_length_le (by simp at h; omega), if_pos rfl]
  | x :: r, k, h => by
    unfold slices_Equal_I_l4
    simp only [List.length_cons] at h
    have hk : k < ys.length := by omega
    rw [rdI_ok (List.drop_eq_getElem_cons hk)]
    simp only [Option.bind_some]
    rw [List.drop_eq_getElem_cons hk]
    by_cases e : x = ys[k]
    · rw [if_neg (by simp [e]), eqA ys r (k + 1) (by omega)]
      simp only [e, List.cons.injEq, true_and]
    · rw [if_pos (by simp [e]), if_neg (fun h => e (List.cons.inj h).1)]
theorem eqB (ys : List Int) : ∀ (r : List Int) (k : Nat), k + r.length = ys.length → assayerref02_SameList_l4 ys k r = some (if r = ys.drop k then .inr () else .inl false)
  | [], k, h => by
    unfold assayerref02_SameList_l4
    rw [List.drop_of_length_le (by simp at h; omega), if_pos rfl]
  | x :: r, k, h => by
    unfold assayerref02_SameList_l4
    simp only [List.length_cons] at h
    have hk : k < ys.length := by omega
    rw [rdI_ok (List.drop_eq_getElem_cons hk)]
    simp only [Option.bind_some]
    rw [List.drop_eq_getElem_cons hk]
    by_cases e : x = ys[k]
    · rw [if_neg (by simp [e]), eqB ys r (k + 1) (by omega)]
      simp only [e, List.cons.injEq, true_and]
    · rw [if_pos (by simp [e]), if_neg (fun h => e (List.cons.inj h).1)]
theorem eqA_ok (xs ys : List Int) : slices_Equal_I_f xs ys = some (decide (xs = ys)) := by
  unfold slices_Equal_I_f
  by_cases h : xs.length = ys.length
  · rw [if_neg (by simp [h]), eqA ys xs 0 (by omega), List.drop_zero]
    by_cases e : xs = ys <;> simp [e]
  · rw [if_pos (by simp; omega)]
    have : xs ≠ ys := fun e => h (by rw [e])
    simp [this]
theorem eqB_ok (xs ys : List Int) : assayerref02_SameList_f xs ys = some (decide (xs = ys)) := by
  unfold assayerref02_SameList_f
  by_cases h : xs.length = ys.length
  · rw [if_neg (by simp [h]), eqB ys xs 0 (by omega), List.drop_zero]
    by_cases e : xs = ys <;> simp [e]
  · rw [if_pos (by simp; omega)]
    have : xs ≠ ys := fun e => h (by rw [e])
    simp [this]
/-- The state has what the operations of the document's state come to. -/
def Abs (f : ByteArray → Option (List Int)) (g : ByteArray → Option Int) (l : List Op') : Prop := (∀ k, (f k).getD [] = ls l k) ∧ ∀ k, g k = rg l k
theorem right_ok {f : ByteArray → Option (List Int)} {g : ByteArray → Option Int} {l : List Op'} (h : Abs f g l) (o : Op') (hl : l.length ≤ 2000000000000) {fuel : Nat} (hf : 2000000000001 < fuel) : ∃ b, model_State_right_f ⟨f, g⟩ o = some b ∧ assayerref16_State_right_f fuel ⟨l⟩ o = some b := by
  unfold model_State_right_f assayerref16_State_right_f
  dsimp only
  rw [eqA_ok, h.1, h.2, list_ok l _ hl]
  simp only [Option.bind_some]
  rw [eqB_ok, val_ok l _ hl hf]
  simp only [Option.bind_some]
  cases o.has with
  | false => simp
  | true =>
    by_cases h2 : (o.kind == 2) = true
    · simp [h2]
    · by_cases h4 : (o.kind == 4) = true <;> simp [h2, h4]
theorem abs_app {f : ByteArray → Option (List Int)} {g : ByteArray → Option Int} {l : List Op'} (h : Abs f g l) {o : Op'} (h1 : (o.kind == 1) = true) : Abs (fset f o.key (((f o.key).getD []) ++ [o.value])) g (l ++ [o]) := by
  have h3 : (o.kind == 3) = false := by simp only [beq_iff_eq] at h1; simp [h1]
  refine ⟨fun k => ?_, fun k => ?_⟩
  · rw [ls_snoc, h1, key_eq, Bool.true_and]
    unfold fset
    by_cases e : k = o.key
    · subst e; simp [h.1]
    · have : ¬ o.key = k := fun h => e h.symm
      simp [e, this, h.1]
  · rw [rg_snoc, h3, h.2]; simp
theorem abs_wr {f : ByteArray → Option (List Int)} {g : ByteArray → Option Int} {l : List Op'} (h : Abs f g l) {o : Op'} (h3 : (o.kind == 3) = true) : Abs f (fset g o.key o.value) (l ++ [o]) := by
  have h1 : (o.kind == 1) = false := by simp only [beq_iff_eq] at h3; simp [h3]
  refine ⟨fun k => ?_, fun k => ?_⟩
  · rw [ls_snoc, h1, h.1]; simp
  · rw [rg_snoc, h3, key_eq, Bool.true_and]
    unfold fset
    by_cases e : k = o.key
    · subst e; simp
    · have : ¬ o.key = k := fun h => e h.symm
      simp [e, this, h.2]
/-- What one operation does to the two states. -/
theorem apply_l {fuel : Nat} (hf : 2000000000001 < fuel) (blind : Bool) (f0 : MSt) (l0 : St16) : ∀ (r : List Op') (k : Nat) (f : ByteArray → Option (List Int)) (g : ByteArray → Option Int) (l : List Op'), Abs f g l → l.length + r.length ≤ 2000000000000 →
    (model_State_Apply_l6 blind f0 k r f g = some (.inl (false, f0)) ∧ assayerref16_State_Apply_l3 fuel blind l0 k r l = some (.inl (false, l0))) ∨
    ∃ f' g' l', model_State_Apply_l6 blind f0 k r f g = some (.inr (f', g')) ∧ assayerref16_State_Apply_l3 fuel blind l0 k r l = some (.inr l') ∧ Abs f' g' l' ∧ l'.length ≤ l.length + r.length
  | [], k, f, g, l, h, _ => .inr ⟨f, g, l, rfl, rfl, h, Nat.le_refl _⟩
  | o :: r, k, f, g, l, h, hl => by
    simp only [List.length_cons] at hl
    have step : ∀ (X : Option ((Bool × MSt) ⊕ ((ByteArray → Option (List Int)) × (ByteArray → Option Int)))) (Y : Option ((Bool × St16) ⊕ List Op')),
        X = (if ((decide (o.kind > 0)) && (decide (o.kind < 5))) = true then (if (o.kind == 0) = true then (model_State_Apply_l6 blind f0 (k + 1) r f g) else (if (o.kind == 1) = true then ((model_State_append_f (⟨f, g⟩ : MSt) o).bind fun u2 => model_State_Apply_l6 blind f0 (k + 1) r u2.lists u2.regs) else (if (o.kind == 2) = true then (model_State_Apply_l6 blind f0 (k + 1) r f g) else (if (o.kind == 3) = true then (model_State_Apply_l6 blind f0 (k + 1) r ((model_State_write_f (⟨f, g⟩ : MSt) o).lists) ((model_State_write_f (⟨f, g⟩ : MSt) o).regs)) else (if (o.kind == 4) = true then (model_State_Apply_l6 blind f0 (k + 1) r f g) else (none)))))) else (model_State_Apply_l6 blind f0 (k + 1) r f g)) →
        Y = (if ((o.kind == 1) || (o.kind == 3)) = true then ((app 64 l o).bind fun u3 => assayerref16_State_Apply_l3 fuel blind l0 (k + 1) r u3) else (assayerref16_State_Apply_l3 fuel blind l0 (k + 1) r l)) →
        (X = some (.inl (false, f0)) ∧ Y = some (.inl (false, l0))) ∨ ∃ f' g' l', X = some (.inr (f', g')) ∧ Y = some (.inr l') ∧ Abs f' g' l' ∧ l'.length ≤ l.length + (r.length + 1) := by
      intro X Y hX hY
      have happ : app 64 l o = some (l ++ [o]) := app_ok (by omega)
      have fin : ∀ f2 g2 l2, Abs f2 g2 l2 → l2.length ≤ l.length + 1 → X = model_State_Apply_l6 blind f0 (k + 1) r f2 g2 → Y = assayerref16_State_Apply_l3 fuel blind l0 (k + 1) r l2 →
          (X = some (.inl (false, f0)) ∧ Y = some (.inl (false, l0))) ∨ ∃ f' g' l', X = some (.inr (f', g')) ∧ Y = some (.inr l') ∧ Abs f' g' l' ∧ l'.length ≤ l.length + (r.length + 1) := by
        intro f2 g2 l2 hA hl2 e1 e2
        rw [e1, e2]
        rcases apply_l hf blind f0 l0 r (k + 1) f2 g2 l2 hA (by omega) with h | ⟨f', g', l', h1, h2, h3, h4⟩
        · exact .inl h
        · exact .inr ⟨f', g', l', h1, h2, h3, by omega⟩
      by_cases h1 : o.kind = 1
      · refine fin (fset f o.key (((f o.key).getD []) ++ [o.value])) g (l ++ [o]) (abs_app h (by simp [h1])) (by simp) ?_ ?_
        · rw [hX]; unfold model_State_append_f; dsimp only; rw [h.1, app_ok (by have := ls_len l o.key; omega)]; simp [h1]
        · rw [hY, happ]; simp [h1]
      · by_cases h3 : o.kind = 3
        · refine fin f (fset g o.key o.value) (l ++ [o]) (abs_wr h (by simp [h3])) (by simp) ?_ ?_
          · rw [hX]; unfold model_State_write_f; simp [h3]
          · rw [hY, happ]; simp [h3]
        · refine fin f g l h (by omega) ?_ ?_
          · rw [hX]
            by_cases hc : ((decide (o.kind > 0)) && (decide (o.kind < 5))) = true
            · rw [if_pos hc]
              simp only [Bool.and_eq_true, decide_eq_true_eq] at hc
              have : o.kind = 2 ∨ o.kind = 4 := by omega
              rcases this with e | e <;> simp [e]
            · rw [if_neg hc]
          · rw [hY]; simp [h1, h3]
    unfold model_State_Apply_l6 assayerref16_State_Apply_l3
    obtain ⟨b, hb1, hb2⟩ := right_ok h o (by omega) hf
    rw [hb1, hb2]
    simp only [Option.bind_some]
    cases blind with
    | true => exact step _ _ rfl rfl
    | false =>
      cases b with
      | false => exact .inl ⟨rfl, rfl⟩
      | true => exact step _ _ rfl rfl
theorem seen_l (x : Int) : ∀ (r : List Int) (k : Nat), assayerref16_Replay_l8 x k r = if x ∈ r then .inl false else .inr ()
  | [], k => by simp [assayerref16_Replay_l8]
  | y :: r, k => by
    unfold assayerref16_Replay_l8
    by_cases e : y = x
    · simp [e]
    · have e' : ¬ x = y := fun h => e h.symm
      rw [if_neg (by simp [e]), seen_l x r (k + 1)]
      simp [e']
theorem few {l : List Int} {n : Nat} (hn : l.Nodup) (h : ∀ x ∈ l, 0 ≤ x ∧ x < (n : Int)) : l.length ≤ n := by
  have h1 : (l.map Int.toNat).Nodup := by
    unfold List.Nodup at hn ⊢
    rw [List.pairwise_map]
    refine hn.imp_of_mem fun {a b} ha hb hab e => hab ?_
    have := h a ha; have := h b hb
    omega
  have := nodup_le h1 (b := List.range n) fun x hx => by
    obtain ⟨y, hy, rfl⟩ := List.mem_map.1 hx
    have := h y hy
    exact List.mem_range.2 (by omega)
  simpa using this
theorem replay_l {fuel : Nat} (hf : 2000000000001 < fuel) (a0 : List Txn) (a1 : List Int) (h0 : ∀ t ∈ a0, t.ops.length ≤ 1048576) (h1 : a0.length ≤ 1048576) : ∀ (r : List Int) (k : Nat) (met : Int → Option Bool) (f : ByteArray → Option (List Int)) (g : ByteArray → Option Int) (l : List Op'),
    k ≤ a1.length → r = a1.drop k → (∀ x, (met x).getD false = decide (x ∈ a1.take k)) → (a1.take k).Nodup → (∀ x ∈ a1.take k, 0 ≤ x ∧ x < a0.length) → Abs f g l → l.length ≤ 1048576 * k →
    ∃ X Y, model_Replay_l4 a0 k r met f g = some X ∧ assayerref16_Replay_l3 fuel a0 a1 k r l = some Y ∧ ((X = .inl false ∧ Y = .inl false) ∨ (∃ p q, X = .inr p ∧ Y = .inr q) ∧ ∀ x ∈ a1, 0 ≤ x ∧ x < (a0.length : Int))
  | [], k, met, f, g, l, _, hr, _, _, hin0, _, _ => ⟨_, _, rfl, rfl, .inr ⟨⟨_, _, rfl, rfl⟩, fun x hx => hin0 x (by
      have hk : a1.length ≤ k := List.drop_eq_nil_iff.1 hr.symm
      rw [List.take_of_length_le hk]; exact hx)⟩⟩
  | x :: r, k, met, f, g, l, hk, hr, hm, hnd, hin0, hA, hl => by
    have hk40 : k ≤ 1048576 := by have := few hnd hin0; rw [List.length_take] at this; omega
    have hk' : k < a1.length := Classical.byContradiction fun hn => by rw [List.drop_of_length_le (by omega)] at hr; cases hr
    have hx : x = a1[k] ∧ r = a1.drop (k + 1) := by
      rw [List.drop_eq_getElem_cons hk'] at hr
      exact ⟨(List.cons.inj hr).1, (List.cons.inj hr).2⟩
    unfold model_Replay_l4 assayerref16_Replay_l3
    by_cases hneg : x < 0
    · rw [if_pos (by simp [hneg]), if_pos (by simp [hneg])]; exact ⟨_, _, rfl, rfl, .inl ⟨rfl, rfl⟩⟩
    · by_cases hbig : x ≥ (a0.length : Int)
      · rw [if_neg (by simp [hneg]), if_pos (by simp [hbig]), if_pos (by simp [hbig])]; exact ⟨_, _, rfl, rfl, .inl ⟨rfl, rfl⟩⟩
      · have hc : ((decide (x < 0)) || (decide (x ≥ (a0.length : Int)))) = false := by
          rw [Bool.or_eq_false_iff]; exact ⟨decide_eq_false hneg, decide_eq_false hbig⟩
        rw [if_neg (by simp [hneg]), if_neg (by simp only [decide_eq_true_eq]; exact hbig), hm, hc]
        simp only [Bool.false_eq_true, if_false]
        have hs : sliJ a1 (k : Int) = some (a1.take k) := by unfold sliJ; rw [if_pos (by omega)]; rfl
        rw [hs]
        simp only [Option.bind_some]
        unfold letF
        rw [seen_l]
        by_cases hin : x ∈ a1.take k
        · rw [if_pos (by simp [hin]), if_pos hin]; exact ⟨_, _, rfl, rfl, .inl ⟨rfl, rfl⟩⟩
        · rw [if_neg (by simp [hin]), if_neg hin]
          have hxl : x.toNat < a0.length := by omega
          have hrd : rdI a0 x = some a0[x.toNat] := by unfold rdI; rw [if_pos (by omega), List.getElem?_eq_getElem hxl]
          rw [hrd]
          simp only [Option.bind_some]
          have hops := h0 _ (List.getElem_mem hxl)
          unfold model_State_Apply_f assayerref16_State_Apply_f model_State_Copy_f maps_Clone_mapstringint_f
          have hap : appL 64 [] l = some l := by unfold appL; rw [if_pos (by simp only [List.length_nil]; omega)]; rfl
          dsimp only
          rw [hap]
          simp only [Option.bind_some]
          rcases apply_l hf (a0[x.toNat].state == 3) ⟨f, g⟩ ⟨l⟩ a0[x.toNat].ops 0 f g l hA (by omega) with ⟨e1, e2⟩ | ⟨f', g', l', e1, e2, hA', hl'⟩
          · rw [e1, e2]; exact ⟨_, _, rfl, rfl, .inl ⟨rfl, rfl⟩⟩
          · rw [e1, e2]
            simp only [Option.bind_some, Bool.not_true, Bool.false_eq_true, if_false]
            refine replay_l hf a0 a1 h0 h1 r (k + 1) (fset met x true) f' g' l' (by omega) hx.2 (fun y => ?_) ?_ ?_ hA' (by omega) <;> rw [List.take_succ_eq_append_getElem hk', ← hx.1]
            rotate_left
            · rw [List.nodup_append]; exact ⟨hnd, by simp, fun y hy z hz e => hin (by rw [List.mem_singleton] at hz; rw [← hz, ← e]; exact hy)⟩
            · intro y hy
              rcases List.mem_append.1 hy with h | h
              · exact hin0 y h
              · rw [List.mem_singleton.1 h]; omega
            unfold fset
            by_cases e : y = x
            · simp [e]
            · simp [e, hm]
theorem replay_ok {fuel : Nat} (hf : 2000000000001 < fuel) (a0 : List Txn) (a1 : List Int) (h0 : ∀ t ∈ a0, t.ops.length ≤ 1048576) (h1 : a0.length ≤ 1048576) : ∃ b, model_Replay_f a0 a1 = some b ∧ assayerref16_Replay_f fuel a0 a1 = some b ∧ (b = true → ∀ x ∈ a1, 0 ≤ x ∧ x < (a0.length : Int)) := by
  obtain ⟨X, Y, e1, e2, h⟩ := replay_l hf a0 a1 h0 h1 a1 0 fnil fnil fnil [] (Nat.zero_le _) rfl (fun x => by simp [fnil]) List.Pairwise.nil (fun x hx => (List.not_mem_nil hx).elim) ⟨fun k => rfl, fun k => rfl⟩ (Nat.zero_le _)
  unfold model_Replay_f assayerref16_Replay_f
  rw [show model_New_f.lists = fnil from rfl, show model_New_f.regs = fnil from rfl, e1, e2]
  rcases h with ⟨rfl, rfl⟩ | ⟨⟨p, q, rfl, rfl⟩, hx⟩
  · exact ⟨_, rfl, rfl, fun h => by cases h⟩
  · exact ⟨_, rfl, rfl, fun _ => hx⟩
def InR (a0 : List Txn) (x : Int) : Prop := 0 ≤ x ∧ x < (a0.length : Int)
def tx (a0 : List Txn) (x : Int) : Txn := (rdI a0 x).getD ⟨0, 0, 0, 0, []⟩
theorem rd_tx {a0 : List Txn} {x : Int} (h : InR a0 x) : rdI a0 x = some (tx a0 x) := by
  unfold tx
  have hxl : x.toNat < a0.length := by unfold InR at h; omega
  have : rdI a0 x = some a0[x.toNat] := by
    unfold rdI; rw [if_pos h.1, List.getElem?_eq_getElem hxl]
  rw [this]; rfl
def conf (a0 : List Txn) (x m : Int) : Bool := search_ahead_f (tx a0 x) (tx a0 m)
theorem idxf {a0 : List Txn} {x : Int} (hx : InR a0 x) : ∀ (r : List Int) (k : Nat), (∀ m ∈ r, InR a0 m) → (r.any (conf a0 x) = true ∧ ∃ j : Nat, slices_IndexFunc_I_search_Right_1_l2 a0 x k r = some (.inl (j : Int))) ∨ (r.any (conf a0 x) = false ∧ slices_IndexFunc_I_search_Right_1_l2 a0 x k r = some (.inr ()))
  | [], k, _ => .inr ⟨rfl, rfl⟩
  | m :: r, k, h => by
    unfold slices_IndexFunc_I_search_Right_1_l2 search_Right_1_f
    rw [rd_tx hx, rd_tx (h m (by simp))]
    simp only [Option.bind_some, List.any_cons]
    by_cases hc : search_ahead_f (tx a0 x) (tx a0 m) = true
    · rw [if_pos hc]; exact .inl ⟨by simp [conf, hc], k, rfl⟩
    · rw [if_neg hc]
      have hc' : conf a0 x m = false := by simpa [conf] using hc
      rw [hc', Bool.false_or]
      exact idxf hx r (k + 1) fun q hq => h q (by simp [hq])
theorem cont {a0 : List Txn} {x : Int} (hx : InR a0 x) (r : List Int) (h : ∀ m ∈ r, InR a0 m) : slices_ContainsFunc_I_search_Right_1_f r a0 x = some (r.any (conf a0 x)) := by
  unfold slices_ContainsFunc_I_search_Right_1_f slices_IndexFunc_I_search_Right_1_f
  rcases idxf hx r 0 h with ⟨h1, j, h2⟩ | ⟨h1, h2⟩
  · rw [h1, h2]; show some (decide ((j : Int) ≥ 0)) = some true; rw [decide_eq_true (by omega)]
  · rw [h1, h2]; rfl
theorem ref11 {a0 : List Txn} {x : Int} (hx : InR a0 x) : ∀ (r : List Int) (k : Nat), (∀ m ∈ r, InR a0 m) → assayerref17_Right_l11 a0 x k r = some (if r.any (conf a0 x) = true then .inl false else .inr ())
  | [], k, _ => by simp [assayerref17_Right_l11]
  | m :: r, k, h => by
    unfold assayerref17_Right_l11
    rw [rd_tx hx, rd_tx (h m (by simp))]
    simp only [Option.bind_some]
    have e : assayerref17_ahead_f (tx a0 x) (tx a0 m) = conf a0 x m := rfl
    rw [e]
    by_cases hc : conf a0 x m = true
    · rw [if_pos hc, if_pos (show (m :: r).any (conf a0 x) = true from by rw [List.any_cons, hc]; rfl)]
    · have hcf : conf a0 x m = false := by simpa using hc
      have e3 : (m :: r).any (conf a0 x) = r.any (conf a0 x) := by rw [List.any_cons, hcf]; rfl
      rw [if_neg hc, ref11 hx r (k + 1) fun q hq => h q (by simp [hq]), e3]
theorem idxI (v : Int) : ∀ (r : List Int) (k : Nat), (v ∈ r ∧ ∃ j : Nat, slices_Index_I_l2 v k r = .inl (j : Int)) ∨ (v ∉ r ∧ slices_Index_I_l2 v k r = .inr ())
  | [], k => .inr ⟨by simp, rfl⟩
  | x :: r, k => by
    unfold slices_Index_I_l2
    by_cases e : v = x
    · rw [if_pos (by simp [e])]; exact .inl ⟨by simp [e], k, rfl⟩
    · rw [if_neg (by simp [e])]
      rcases idxI v r (k + 1) with ⟨h1, h2⟩ | ⟨h1, h2⟩
      · exact .inl ⟨by simp [h1], h2⟩
      · exact .inr ⟨by simp [e, h1], h2⟩
theorem contI (r : List Int) (v : Int) : slices_Contains_I_f r v = decide (v ∈ r) := by
  unfold slices_Contains_I_f slices_Index_I_f
  rcases idxI v r 0 with ⟨h1, j, h2⟩ | ⟨h1, h2⟩
  · rw [h2]; simp [letF, h1]
  · rw [h2]; simp [letF, h1]
theorem right_l (a0 : List Txn) (a1 : List Int) (hin : ∀ x ∈ a1, InR a0 x) : ∀ (r : List Int) (k : Nat) (y : List Bool), k ≤ a1.length → r = a1.drop k → y.length = a0.length → (∀ i, i < a0.length → y[i]? = some (decide ((i : Int) ∈ a1.take k))) →
    (search_Right_l4 a0 a1 k r = some (.inl false) ∧ assayerref17_Right_l5 a0 a1 k r y = some (.inl false)) ∨
    (search_Right_l4 a0 a1 k r = some (.inr ()) ∧ ∃ y', assayerref17_Right_l5 a0 a1 k r y = some (.inr y') ∧ y'.length = a0.length ∧ ∀ i, i < a0.length → y'[i]? = some (decide ((i : Int) ∈ a1)))
  | [], k, y, hk, hr, hy, hg => .inr ⟨rfl, y, rfl, hy, fun i hi => by
      have hk2 : a1.length ≤ k := List.drop_eq_nil_iff.1 hr.symm
      have := hg i hi
      rwa [List.take_of_length_le hk2] at this⟩
  | x :: r, k, y, hk, hr, hy, hg => by
    have hk' : k < a1.length := Classical.byContradiction fun hn => by rw [List.drop_of_length_le (by omega)] at hr; cases hr
    have hx : x = a1[k] ∧ r = a1.drop (k + 1) := by
      rw [List.drop_eq_getElem_cons hk'] at hr
      exact ⟨(List.cons.inj hr).1, (List.cons.inj hr).2⟩
    have hxm : x ∈ a1 := by rw [hx.1]; exact List.getElem_mem hk'
    have hxr := hin x hxm
    unfold search_Right_l4 assayerref17_Right_l5
    have hyx : rdI y x = some (decide (x ∈ a1.take k)) := by
      unfold rdI; rw [if_pos hxr.1, hg x.toNat (by have := hxr.1; have := hxr.2; omega)]
      rw [show ((x.toNat : Nat) : Int) = x from Int.toNat_of_nonneg hxr.1]
    rw [rd_tx hxr, hyx]
    simp only [Option.bind_some]
    have hd : ((tx a0 x).state != 1 && (tx a0 x).state != 3) = !(search_done_f (tx a0 x)) := by unfold search_done_f; rw [Bool.not_or]; rfl
    rw [hd]
    by_cases hc : (!(search_done_f (tx a0 x))) = true
    · rw [if_pos hc, if_pos hc]; exact .inl ⟨rfl, rfl⟩
    · rw [if_neg hc, if_neg hc]
      have hs : sliJ a1 (k : Int) = some (a1.take k) := by unfold sliJ; rw [if_pos (by omega)]; rfl
      have htk : ∀ m ∈ a1.take k, InR a0 m := fun m hm => hin m (List.mem_of_mem_take hm)
      rw [hs]
      simp only [Option.bind_some]
      rw [cont hxr _ htk, ref11 hxr _ 0 htk]
      simp only [Option.bind_some]
      by_cases ha : (a1.take k).any (conf a0 x) = true
      · rw [if_pos ha, if_pos ha]; exact .inl ⟨rfl, rfl⟩
      · rw [if_neg ha, if_neg ha]
        refine right_l a0 a1 hin r (k + 1) (List.set y x.toNat true) (by omega) hx.2 (by rw [List.length_set]; exact hy) fun i hi => ?_
        rw [List.getElem?_set, List.take_succ_eq_append_getElem hk', ← hx.1]
        by_cases e : x.toNat = i
        · rw [if_pos e, if_pos (by rw [hy]; omega)]
          have : (i : Int) = x := by rw [← e]; exact Int.toNat_of_nonneg hxr.1
          simp [this]
        · rw [if_neg e, hg i hi]
          have : ¬ (i : Int) = x := fun h => e (by rw [← h]; rfl)
          simp [this]
theorem end_l (a0 : List Txn) (a1 : List Int) (y : List Bool) (hg : ∀ i, i < a0.length → y[i]? = some (decide ((i : Int) ∈ a1))) : ∀ (r : List Txn) (k : Nat), r = a0.drop k →
    (search_Right_l10 a1 k r = .inl false ∧ assayerref17_Right_l18 y k r = some (.inl false)) ∨ (search_Right_l10 a1 k r = .inr () ∧ assayerref17_Right_l18 y k r = some (.inr ()))
  | [], k, _ => .inr ⟨rfl, rfl⟩
  | t :: r, k, hr => by
    have hk' : k < a0.length := Classical.byContradiction fun hn => by rw [List.drop_of_length_le (by omega)] at hr; cases hr
    have hr2 : r = a0.drop (k + 1) := by
      rw [List.drop_eq_getElem_cons hk'] at hr
      exact (List.cons.inj hr).2
    unfold search_Right_l10 assayerref17_Right_l18
    have hyk : rdI y (k : Int) = some (decide ((k : Int) ∈ a1)) := by unfold rdI; rw [if_pos (by omega)]; exact hg k hk'
    rw [contI, hyk]
    simp only [Option.bind_some]
    have ih := end_l a0 a1 y hg r (k + 1) hr2
    by_cases h1 : (t.state == 1) = true
    · rw [h1]
      by_cases h2 : (k : Int) ∈ a1
      · simpa [h2] using ih
      · simp [h2]
    · have h1' : (t.state == 1) = false := by simpa using h1
      rw [h1']
      simpa using ih
theorem searchRight_true (a0 : List Txn) (a1 : List Int) (h0 : ∀ t ∈ a0, t.ops.length ≤ 1048576) (h1 : a0.length ≤ 1048576) : assayerlaw17_SearchRight_f 2000000000002 a0 a1 = some true := by
  unfold assayerlaw17_SearchRight_f search_Right_f assayerref17_Right_f
  obtain ⟨b, e1, e2, hb⟩ := replay_ok (fuel := 2000000000002) (by omega) a0 a1 h0 h1
  rw [e1, e2]
  simp only [Option.bind_some]
  cases b with
  | false => rfl
  | true =>
    have hin := hb rfl
    simp only [Bool.not_true, Bool.false_eq_true, if_false]
    rcases right_l a0 a1 hin a1 0 (List.replicate a0.length false) (Nat.zero_le _) rfl (by simp) (fun i hi => by rw [List.getElem?_replicate, if_pos hi]; simp) with ⟨h1, h2⟩ | ⟨h1, y', h2, h3, h4⟩
    · rw [h1, h2]; rfl
    · rw [h1, h2]
      simp only [Option.bind_some]
      rcases end_l a0 a1 y' h4 a0 0 rfl with ⟨h5, h6⟩ | ⟨h5, h6⟩
      · rw [h5, h6]; rfl
      · rw [h5, h6]; rfl
end Go.Proofs.Ytemdmpgekegfhaa
