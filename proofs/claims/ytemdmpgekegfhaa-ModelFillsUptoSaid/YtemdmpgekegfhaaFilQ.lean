/- The plain law of ModelFills: what the model of states tells of what was appended and written is what the law says. -/
import Derived.Test.YtemdmpgekegfhaaFil3
import Derived.Test.YtemdmpgekegfhaaPq
namespace Go.Proofs.Ytemdmpgekegfhaa
open Go.RowKit
set_option linter.all false
set_option maxRecDepth 10000

theorem eqA (ys : List Int) : ∀ (r : List Int) (k : Nat), k + r.length = ys.length → slices_Equal_I_l4 ys k r = some (if r = ys.drop k then .inr () else .inl false)
  | [], k, h => by
    unfold slices_Equal_I_l4
    rw [List.drop_of_length_le (by simp at h; omega), if_pos rfl]
  | x :: r, k, h => by
    unfold slices_Equal_I_l4
    simp only [List.length_cons] at h
    have hk : k < ys.length := by omega
    rw [rdI_ok (List.drop_eq_getElem_cons hk)]
    simp only [Option.bind_some]
    rw [List.drop_eq_getElem_cons hk]
    by_cases e : x = ys[k]
    · rw [if_neg (by simp [e]), eqA ys r (k + 1) (by omega)]
      simp only [e, List.cons.injEq, true_and]
    · rw [if_pos (by simp [e]), if_neg (fun h => e (List.cons.inj h).1)]
theorem eqA_ok (xs ys : List Int) : slices_Equal_I_f xs ys = some (decide (xs = ys)) := by
  unfold slices_Equal_I_f
  by_cases h : xs.length = ys.length
  · rw [if_neg (by simp [h]), eqA ys xs 0 (by omega), List.drop_zero]
    by_cases e : xs = ys <;> simp [e]
  · rw [if_pos (by simp; omega)]
    have : xs ≠ ys := fun e => h (by rw [e])
    simp [this]
abbrev kx : ByteArray := ByteArray.mk #[120]
variable (f : ByteArray → Option (List Int)) (g : ByteArray → Option Int)
theorem fill_step (v : Int) (h : (((f kx).getD []).length + 1) * 8 ≤ 140737488355328) :
    model_State_Apply_f ⟨f, g⟩ [(⟨1, kx, v, [], false, false⟩ : Op'), (⟨3, kx, v, [], false, false⟩ : Op')] false = some (true, ⟨fset f kx ((f kx).getD [] ++ [v]), fset g kx v⟩) := by
  unfold model_State_Apply_f model_State_Copy_f maps_Clone_mapstringint_f
  simp [model_State_Apply_l6, model_State_right_f, model_State_append_f, model_State_write_f, app_ok h]
theorem fill_read (xs : List Int) : model_State_Apply_f ⟨f, g⟩ [(⟨2, kx, 0, xs, true, false⟩ : Op')] false = some (decide (xs = (f kx).getD []), ⟨f, g⟩) := by
  unfold model_State_Apply_f model_State_Copy_f maps_Clone_mapstringint_f
  by_cases h : xs = (f kx).getD [] <;> simp [model_State_Apply_l6, model_State_right_f, eqA_ok, h]
theorem fill_blind (xs : List Int) : model_State_Apply_f ⟨f, g⟩ [(⟨2, kx, 0, xs, true, false⟩ : Op')] true = some (true, ⟨f, g⟩) := by
  unfold model_State_Apply_f model_State_Copy_f maps_Clone_mapstringint_f
  simp [model_State_Apply_l6]
theorem fill_get (xs : List Int) (v : Int) (b : Bool) (h1 : xs = (f kx).getD []) (h2 : ((!((g kx).isSome == b)) && (b || (g kx).getD 0 == v)) = true) :
    model_State_Apply_f ⟨f, g⟩ [(⟨2, kx, 0, xs, true, false⟩ : Op'), (⟨4, kx, v, [], true, b⟩ : Op')] false = some (true, ⟨f, g⟩) := by
  unfold model_State_Apply_f model_State_Copy_f maps_Clone_mapstringint_f
  simp [model_State_Apply_l6, model_State_right_f, eqA_ok, ← h1]
  simp at h2
  obtain ⟨h3, h4⟩ := h2
  rw [if_neg fun h5 => by
    obtain ⟨h6, h7⟩ := h5 h3
    rcases h4 with h | h
    · rw [h] at h6; cases h6
    · exact h7 h]
  rfl
theorem fills_l (a0 : List Int) (hb : a0.length ≤ 1048576) : ∀ (r : List Int) (k : Nat) (f : ByteArray → Option (List Int)) (g : ByteArray → Option Int), r = a0.drop k → k ≤ a0.length → (f kx).getD [] = a0.take k → g kx = (a0.take k).getLast? →
    ∃ f' g', assayerlaw16_ModelFills_l5 k r f g = some (.inr (f', g')) ∧ (f' kx).getD [] = a0 ∧ g' kx = a0.getLast?
  | [], k, f, g, hr, hk, h1, h2 => by
    have hl : a0.length ≤ k := by have := congrArg List.length hr; simp at this; omega
    rw [List.take_of_length_le hl] at h1 h2
    exact ⟨f, g, rfl, h1, h2⟩
  | x :: r, k, f, g, hr, hk, h1, h2 => by
    obtain ⟨hk', hx, hr'⟩ := drop_next hr.symm
    unfold assayerlaw16_ModelFills_l5
    rw [fill_step f g x (by rw [h1, List.length_take]; omega)]
    simp only [Option.bind_some, Bool.not_true, Bool.false_eq_true, if_false]
    refine fills_l a0 hb r (k + 1) _ _ hr' (by omega) ?_ ?_
    · rw [fset_same, h1, List.take_succ_eq_append_getElem hk', hx]; rfl
    · rw [fset_same, List.take_succ_eq_append_getElem hk', List.getLast?_append]; simp [hx]
theorem modelFills_true (a0 : List Int) (a1 : Int) (hb : a0.length ≤ 1048576) : assayerlaw16_ModelFills_f a0 a1 = some true := by
  unfold assayerlaw16_ModelFills_f
  obtain ⟨f, g, e, h1, h2⟩ := fills_l a0 hb a0 0 model_New_f.lists model_New_f.regs rfl (Nat.zero_le _) rfl rfl
  rw [e]
  simp only [Option.bind_some]
  have happ : app 8 a0 a1 = some (a0 ++ [a1]) := app_ok (by omega)
  have hne : ¬ (a0 ++ [a1] = a0) := fun e => by have := congrArg List.length e; simp at this
  have tail : ∀ v, ((!((g kx).isSome == ((a0.length : Int) == 0))) && (((a0.length : Int) == 0) || (g kx).getD 0 == v)) = true →
      ((model_State_Apply_f (⟨f, g⟩ : MSt) [(⟨2, ByteArray.mk #[120], 0, a0, true, false⟩ : Op'), (⟨4, ByteArray.mk #[120], v, [], true, (a0.length : Int) == 0⟩ : Op')] false).bind fun u3 => if (!u3.1) = true then (some false) else ((app 8 a0 a1).bind fun u4 => (model_State_Apply_f (⟨u3.2.lists, u3.2.regs⟩ : MSt) [(⟨2, ByteArray.mk #[120], 0, u4, true, false⟩ : Op')] false).bind fun u5 => if (!u5.1) = true then ((model_State_Apply_f (⟨u5.2.lists, u5.2.regs⟩ : MSt) [(⟨2, ByteArray.mk #[120], 0, u4, true, false⟩ : Op')] true).bind fun u6 => some u6.1) else (some false))) = some true := by
    intro v hv
    rw [fill_get f g a0 v _ h1.symm hv]
    simp only [Option.bind_some, Bool.not_true, Bool.false_eq_true, if_false, happ]
    rw [fill_read, h1]
    simp only [Option.bind_some, hne, decide_false, Bool.not_false, if_true]
    rw [fill_blind]
    rfl
  cases h : a0 with
  | nil =>
    rw [if_neg (by simp)]
    rw [← h]
    exact tail 0 (by rw [h2, h]; rfl)
  | cons x r =>
    rw [if_pos (by simp), ← h]
    have hl : 0 < a0.length := by rw [h]; simp
    have hlast : a0.getLast? = some a0[a0.length - 1] := by rw [List.getLast?_eq_getElem?, List.getElem?_eq_getElem (by omega)]
    rw [wrap_small (by omega) (by omega), show ((a0.length : Int) - 1) = ((a0.length - 1 : Nat) : Int) from by omega, rdI_at (by omega)]
    simp only [Option.bind_some]
    refine tail _ ?_
    rw [h2, hlast]
    have : ((a0.length : Int) == 0) = false := by rw [beq_eq_false_iff_ne]; omega
    rw [this]; simp
end Go.Proofs.Ytemdmpgekegfhaa
