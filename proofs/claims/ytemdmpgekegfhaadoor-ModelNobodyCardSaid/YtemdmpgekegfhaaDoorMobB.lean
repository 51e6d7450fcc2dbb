/- ModelNobody: the law's walk. -/
import Derived.Test.YtemdmpgekegfhaaDoorMobA
import Derived.Test.YtemdmpgekegfhaaDoorMob2
namespace Go.Proofs.YtemdmpgekegfhaaDoor
open Go.RowKit
set_option linter.all false
set_option maxRecDepth 10000
abbrev QM (b : Nat) (l : Nat) : List HP := [pt l (.cells #[.pointer none, .pointer (some ⟨b, 0, none⟩)] 78 (0, 0)), pt b (.cells #[.map none, .map none] 91 (0, 0))]
theorem m_zs {E : World} {s : SH} {w : World} {b l : Nat} {v : Value} (H : Holds E s (QM b l) w) (h : v = .pointer none ∨ v = .pointer (some ⟨b, 0, none⟩)) : Zs w v := by
  rcases h with rfl | rfl
  · exact .inl rfl
  · exact .inr ⟨b, rfl, (H.drop).at_pt⟩
theorem m_c0 {E : World} {s : SH} {w : World} {b l : Nat} (H : Holds E s (QM b l) w) : w.cell? ⟨l, 0, none⟩ = some (.pointer none) := by
  have := H.at_pt
  simp [World.cell?, this]
theorem m_c1 {E : World} {s : SH} {w : World} {b l : Nat} (H : Holds E s (QM b l) w) : w.cell? ⟨l, 1, none⟩ = some (.pointer (some ⟨b, 0, none⟩)) := by
  have := H.at_pt
  simp [World.cell?, this]
set_option maxHeartbeats 2000000 in
theorem mnobody_w (w : World) (key : ByteArray) : Calls Tryd.prog 11 #[.string key] w fun e w' => e = .returned (.bool true) ∧ Below w.heap.size w w' := by
  have H := (((Holds.start w).alloc (.cells #[.map none, .map none] 91)).alloc (.cells #[.pointer none, .pointer (some ⟨w.heap.size, 0, none⟩)] 78))
  have hs : (w.alloc (.cells #[.map none, .map none] 91)).heap.size = w.heap.size + 1 := by simp
  rw [hs] at H
  have cL0 := m_c0 H
  have cL1 := m_c1 H
  go_enter Tryd.func11, Tryd.ntmps11
  go_wp2
  generalize ((w.alloc (.cells #[.map none, .map none] 91)).alloc (.cells #[.pointer none, .pointer (some ⟨w.heap.size, 0, none⟩)] 78)) = W at H cL0 cL1 ⊢
  refine wp_loop_rounds 3 ?_
  rw [rounds_succ]
  go_wp2_with (first
    | (go_at_call 44; refine (value_z (m_zs H (.inl rfl)) _).mono ?_; rintro e w' ⟨rfl, rfl⟩)
    | (go_at_call 42; refine (apply_z (m_zs H (.inl rfl))).mono ?_; rintro e w' ⟨rfl, rfl⟩)
    | (go_at_call 45; refine (list_z (m_zs H (.inl rfl)) _).mono ?_; rintro e w' ⟨rfl, rfl⟩)
    | (go_at_call 39; refine (text_z (m_zs H (.inl rfl))).mono ?_; rintro e w' ⟨rfl, rfl⟩)
    | (go_at_call 41; refine (copy_z (m_zs H (.inl rfl))).mono ?_; rintro e w' ⟨rfl, rfl⟩))
  rw [rounds_succ]
  go_wp2_with (first
    | (go_at_call 44; refine (value_z (m_zs H (.inr rfl)) _).mono ?_; rintro e w' ⟨rfl, rfl⟩)
    | (go_at_call 42; refine (apply_z (m_zs H (.inr rfl))).mono ?_; rintro e w' ⟨rfl, rfl⟩)
    | (go_at_call 45; refine (list_z (m_zs H (.inr rfl)) _).mono ?_; rintro e w' ⟨rfl, rfl⟩)
    | (go_at_call 39; refine (text_z (m_zs H (.inr rfl))).mono ?_; rintro e w' ⟨rfl, rfl⟩)
    | (go_at_call 41; refine (copy_z (m_zs H (.inr rfl))).mono ?_; rintro e w' ⟨rfl, rfl⟩))
  rw [rounds_succ]
  clear cL0 cL1
  go_wp2_with (first
    | (go_at_call 46; refine (model_New_w H).mono ?_; rintro e w' ⟨b0, r0, r1, rfl, H2⟩)
    | (go_at_call 42; refine (model_State_Apply_w (a0 := model_New_f) (a1 := []) (a2 := false) (A_p1 := none) (c_p1 := 0) (R := (true, model_New_f)) Kin.Sl.nil (by rfl) H2).mono ?_; rintro e w' ⟨q0, q1, rfl, H3⟩))
  go_ret
  exact ⟨rfl, Holds.toBelow (Sub.refl _) (by assumption)⟩
end Go.Proofs.YtemdmpgekegfhaaDoor
