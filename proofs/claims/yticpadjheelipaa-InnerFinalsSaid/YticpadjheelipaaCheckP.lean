/- The inner layer: views by their things, and what is wrong first. -/
import Derived.Test.YticpadjheelipaaView
import Derived.Test.YticpadjheelipaaWp
namespace Go.Proofs.Yticpadjheelipaa
open Go.RowKit
set_option linter.all false
set_option maxRecDepth 10000

def upd (f : Thing → View) (t : Thing) (v : View) : Thing → View := fun x => if x = t then v else f x
def checkV : (Thing → View) → Int → List Op' → Int
  | _, _, [] => -1
  | f, i, o :: r => if isOf o = true then (if (readsO o && !rightV (f (thingOf o)) o) = true then i else checkV (upd f (thingOf o) (behindV (f (thingOf o)) o)) (i + 1) r) else checkV f (i + 1) r
theorem checkV_skip {f : Thing → View} {i : Int} {o : Op'} {r : List Op'} (h : (!isOf o) = true) : checkV f i (o :: r) = checkV f (i + 1) r := by
  simp only [checkV]; rw [if_neg (by simpa using h)]
theorem checkV_stop {f : Thing → View} {i : Int} {o : Op'} {r : List Op'} (h : isOf o = true) (h2 : (readsO o && !rightV (f (thingOf o)) o) = true) : checkV f i (o :: r) = i := by
  simp only [checkV]; rw [if_pos h, if_pos h2]
theorem checkV_go {f : Thing → View} {i : Int} {o : Op'} {r : List Op'} (h : isOf o = true) (h2 : (readsO o && !rightV (f (thingOf o)) o) = false) : checkV f i (o :: r) = checkV (upd f (thingOf o) (behindV (f (thingOf o)) o)) (i + 1) r := by
  simp only [checkV]; rw [if_pos h, if_neg (by simp [h2])]
/-- The map's rows l hold the views f. -/
structure ViewsAt (s : SH) (f : Thing → View) (l : List (Thing × Value)) : Prop where
  ok : ∀ p ∈ l, okT p.1
  uniq : Uniq l
  get : ∀ t, ∃ vl, (mget l t).getD (.agg #[.bool false, .slice none 0 0, .bool false, .int .i64 0]) = viewv (f t) vl ∧ kI.Sl s vl (f t).list
theorem ViewsAt.nil {s : SH} : ViewsAt s (fun _ => view0) [] := ⟨fun _ h => (List.not_mem_nil h).elim, List.Pairwise.nil, fun _ => ⟨.slice none 0 0, rfl, Kin.Sl.nil⟩⟩
theorem ViewsAt.mono {s s' : SH} (hs : Sub s s') {f : Thing → View} {l : List (Thing × Value)} (h : ViewsAt s f l) : ViewsAt s' f l :=
  ⟨h.ok, h.uniq, fun t => let ⟨vl, a, b⟩ := h.get t; ⟨vl, a, b.mono hs⟩⟩
theorem ViewsAt.put {s : SH} {f : Thing → View} {l : List (Thing × Value)} (h : ViewsAt s f l) {t : Thing} (ht : okT t) {v : View} {vl : Value} (hv : kI.Sl s vl v.list) : ViewsAt s (upd f t v) (mput l t (viewv v vl)) := by
  refine ⟨fun p hp => ?_, mput_uniq h.uniq _ _, fun x => ?_⟩
  · rcases mput_mem hp with e | e
    · subst e; exact ht
    · exact h.ok p e
  · rw [mget_put]
    unfold upd
    by_cases e : x = t
    · rw [if_pos e, if_pos e]; exact ⟨vl, rfl, hv⟩
    · rw [if_neg e, if_neg e]; exact h.get x
/-- One operation of a slice that stays. -/
theorem elemOp {s : SH} {A : Option Addr} {n cap : Nat} {xs : List Op'} (h : kOp.Sl s (.slice A n cap) xs) (k : Nat) (hk : k < xs.length) :
    ∃ b off o Al cl, A = some ⟨b, off, none⟩ ∧ xs.drop k = o :: xs.drop (k + 1) ∧ o ∈ xs ∧ Cells s ⟨b, off + k * 6, none⟩ [.int .i64 o.kind, .string o.key, .int .i64 o.value, .slice Al o.list.length cl, .bool o.has, .bool o.isNil] ∧
      kI.Sl s (.slice Al o.list.length cl) o.list ∧ Kin.inI64 o.kind ∧ o.key.size ≤ 140737488351232 ∧ Kin.inI64 o.value := by
  obtain ⟨b, off, c, rfl, hK, hC⟩ := h.elem k hk
  obtain ⟨v3, rfl, hsl, hr1, hr2, hr3⟩ := kOp_open hK
  obtain ⟨Al, cl, e, h1, h2, h3⟩ := id hsl
  subst e
  exact ⟨b, off, xs[k], Al, cl, rfl, List.drop_eq_getElem_cons hk, List.getElem_mem hk, hC, hsl, hr1, hr2, hr3⟩
theorem behindV_len {v : View} {o : Op'} {B k : Nat} (h : v.list.length ≤ B + k) (ho : o.list.length ≤ B) : (behindV v o).list.length ≤ B + (k + 1) := by
  unfold behindV
  split
  · simp only [List.length_append, List.length_singleton]; omega
  · split
    · simp
    · split
      · simp only; omega
      · split
        · simp
        · omega
theorem upd_len {f : Thing → View} {t : Thing} {o : Op'} {B k : Nat} {p : Prop} (h : ∀ t, (f t).list.length ≤ B + k ∨ p) (ho : o.list.length ≤ B) : ∀ x, (upd f t (behindV (f t) o) x).list.length ≤ B + (k + 1) ∨ p := by
  intro x
  unfold upd
  split
  · exact (h t).imp (fun h => behindV_len h ho) id
  · exact (h x).imp (fun h => by omega) id
theorem room {xs : List Op'} {o : Op'} {v : View} {B k : Nat} (hk : k < xs.length) (hn : (∀ o ∈ xs, o.kind ≠ 1) ∨ (B + xs.length + 1) * 8 ≤ 140737488355328) (hm : o ∈ xs) (h : v.list.length ≤ B + k ∨ (∀ o ∈ xs, o.kind ≠ 1)) (h1 : o.kind = 1) : (v.list.length + 1) * 8 ≤ 140737488355328 := by
  rcases h with h | h
  · rcases hn with hn | hn
    · exact absurd h1 (hn o hm)
    · omega
  · exact absurd h1 (h o hm)
end Go.Proofs.Yticpadjheelipaa
