/- What a call returns, out of slots and out of cells. -/
import Derived.Test.YtemdmpgekegfhaaDoorOps
namespace Go.Proofs.YtemdmpgekegfhaaDoor
open Go.RowKit
set_option linter.all false
set_option maxRecDepth 10000

def rvS (tmps : Array Value) : ResultVar → Sem Value
  | .tmp t => pure (tmps.getD t undef)
  | .cell a t => do loadVar t (← asAddr (tmps.getD a undef))
def RVok (P : Program) (tmps : Array Value) (w : World) (r : ResultVar) (v : Value) : Prop := (rvS tmps r).run P w = .ok v w
theorem results_rv (fn : Func) (tmps : Array Value) : results fn tmps = (do
  let vs ← fn.results.mapM (rvS tmps)
  pure (if h : vs.size = 1 then vs[0] else .tuple vs)) := rfl
theorem sem_map {α β : Type} (f : α → β) (x : Sem α) : f <$> x = (do let a ← x; pure (f a)) := rfl
section
variable {P : Program} {fn : Func} {R : Ending → World → Prop} {a : Act} {w : World}
theorem ret1 {r1 : ResultVar} {v1 : Value} (h : fn.results = #[r1]) (h1 : RVok P a.tmps w r1 v1) (hd : a.defers = []) (hR : R (.returned v1) w) : bodyPost P fn R .ret a w := by
  refine bodyPost_ret (v := v1) ?_ hd hR
  unfold RVok at h1
  rw [results_rv, h]
  simp only [List.mapM_toArray, List.mapM_cons, List.mapM_nil, sem_map, Sem.run_bind, Sem.run_pure, Result.andThen_ok, h1]
  rfl
theorem ret2 {r1 r2 : ResultVar} {v1 v2 : Value} (h : fn.results = #[r1, r2]) (h1 : RVok P a.tmps w r1 v1) (h2 : RVok P a.tmps w r2 v2) (hd : a.defers = []) (hR : R (.returned (.tuple #[v1, v2])) w) : bodyPost P fn R .ret a w := by
  refine bodyPost_ret (v := .tuple #[v1, v2]) ?_ hd hR
  unfold RVok at h1 h2
  rw [results_rv, h]
  simp only [List.mapM_toArray, List.mapM_cons, List.mapM_nil, sem_map, Sem.run_bind, Sem.run_pure, Result.andThen_ok, h1, h2]
  rfl
theorem ret3 {r1 r2 r3 : ResultVar} {v1 v2 v3 : Value} (h : fn.results = #[r1, r2, r3]) (h1 : RVok P a.tmps w r1 v1) (h2 : RVok P a.tmps w r2 v2) (h3 : RVok P a.tmps w r3 v3) (hd : a.defers = []) (hR : R (.returned (.tuple #[v1, v2, v3])) w) : bodyPost P fn R .ret a w := by
  refine bodyPost_ret (v := .tuple #[v1, v2, v3]) ?_ hd hR
  unfold RVok at h1 h2 h3
  rw [results_rv, h]
  simp only [List.mapM_toArray, List.mapM_cons, List.mapM_nil, sem_map, Sem.run_bind, Sem.run_pure, Result.andThen_ok, h1, h2, h3]
  rfl
variable {E : World} {s : SH} {L : List HP} {tmps : Array Value}
theorem rv_tmp {t : Tmp} {v : Value} (h : tmps.getD t undef = v) : RVok P tmps w (.tmp t) v := by subst h; rfl
theorem rv_cellN (i : Nat) {x : Tmp} {ty : TypeId} {b : Nat} {c : List Value} {t : TypeId} {fr : Nat × Nat} (H : Holds E s L w) (hi : L[i]? = some (pt b (.cells c.toArray t fr))) (hx : tmps.getD x undef = .pointer (some ⟨b, 0, none⟩))
    (hna : (isAgg ty).run P w = .ok true w) (hsz : (sizeOf ty).run P w = .ok c.length w) : RVok P tmps w (.cell x ty) (.agg c.toArray) := by
  have hb := (H.front i hi).at_pt
  have hl := run_loadCells_list (P := P) w ⟨b, 0, none⟩ c (fun j u hj => by
    have e : (⟨b, 0, none⟩ : Addr).add j = ⟨b, j, none⟩ := by unfold Addr.add; split <;> simp_all
    rw [e]; simp only [World.cell?, hb]; simpa using hj)
  unfold RVok rvS
  simp only [hx, asAddr, loadVar, Sem.run_bind, Sem.run_pure, Result.andThen_ok, hna, if_true, hsz, hl]
theorem rv_cell1 (i : Nat) {x : Tmp} {ty : TypeId} {b q : Nat} {cs : Array Value} {u : Value} {t : TypeId} {fr : Nat × Nat} (H : Holds E s L w) (hi : L[i]? = some (pt b (.cells cs t fr))) (hx : tmps.getD x undef = .pointer (some ⟨b, q, none⟩))
    (hna : (isAgg ty).run P w = .ok false w) (hu : cs[q]? = some u) : RVok P tmps w (.cell x ty) u := by
  have hb := (H.front i hi).at_pt
  have hc : w.cell? ⟨b, q, none⟩ = some u := by simp only [World.cell?, hb]; exact hu
  unfold RVok rvS
  simp [hx, asAddr, loadVar, hna, load, Sem.run, hc, Result.andThen]
end
end Go.Proofs.YtemdmpgekegfhaaDoor
