/- Regions that go in the order of their text, by the same look at each operation as those that draw their order. -/
import Derived.Test.YtemdmpgekegfhaaDoorObO
namespace Go.Proofs.YtemdmpgekegfhaaDoor
open Go.RowKit
set_option linter.all false
set_option maxRecDepth 10000

section
variable {P : Program} {l : List Oper} {Q : Exit → Act → World → Prop}
structure MidL (l : List Oper) (k : Nat) (a0 : Act) (E : World) (s : SH) (L : List HP) (X : Nat → Value → List HP) (cn : Nat → Nat) (ini : Nat → List HP) (G : Nat → SH → Value → Prop) (i : Nat) (a : Act) (w : World) (s' : SH) (x : Nat → Value) : Prop where
  sub : Sub s s'
  H : Holds E s' (alive k X cn (fun j => decide (j < i)) x ++ (initA k ini (fun j => decide (j < i)) ++ L)) w
  g : ∀ j, j < i → G j s' (x j)
  size : a.tmps.size = a0.tmps.size
  defers : a.defers = a0.defers
  get : ∀ t, (∀ j, j < i → dstOf l j ≠ some t) → a.tmps[t]? = a0.tmps[t]?
  at_ : ∀ j d, j < i → dstOf l j = some d → a.tmps[d]? = some (x j)

theorem wp_plainO {id k : Nat} {a0 : Act} {w : World} {E : World} {s : SH} {L : List HP} (hk : k = l.length) (hpre : preOkS l k a0.tmps.size = true)
    (X : Nat → Value → List HP) (cn : Nat → Nat) (ini : Nat → List HP) (H : Holds E s (initA k ini (fun _ => false) ++ L) w) (hcn : ∀ j, j < k → cn j < k → ∃ o, l[cn j]? = some o ∧ dep o j = true ∧ cn j ≠ j)
    (G : Nat → SH → Value → Prop) (hmono : ∀ i, i < k → ∀ s s' v, Sub s s' → G i s v → G i s' v)
    (hop : ∀ i o, i < k → l[i]? = some o → ∀ (s' : SH) (w' : World) (x : Nat → Value) (Φ : Value → World → Prop) (R : List HP), Sub s s' → Holds E s' (inpO k X cn i x ++ (ini i ++ (L ++ R))) w' → (∀ j, j < i → dep o j = true → G j s' (x j)) →
      (∀ v s'' w'', Sub s' s'' → Holds E s'' (X i v ++ (L ++ R)) w'' → G i s'' v → Φ v w'') →
      if Region.wanted o (yielded l.toArray (ov a0 (l.take k) 0 x).tmps) then OpG P o (ov a0 (l.take k) 0 x) w' Φ else Φ undef w')
    (hfin : ∀ (s' : SH) (w' : World) (x : Nat → Value), Sub s s' → Holds E s' (alive k X cn (fun j => decide (j < k)) x ++ L) w' → (∀ j, j < k → G j s' (x j)) → Q .normal (ov a0 (l.take k) 0 x) w') :
    (Code.region id l.toArray false).wp P Q a0 w := by
  have hP := List.all_eq_true.1 hpre
  -- what the check says of one operation
  have one : ∀ i, i < k → ∃ o, l[i]? = some o ∧ (∀ d, o.dst = some d → d < a0.tmps.size ∧ (∀ j, j < k → j ≠ i → dstOf l j ≠ some d)) ∧ (∀ t ∈ o.looksAt l.toArray, ∀ j, j < k → dstOf l j = some t → dep o j = true) ∧
      (∀ e ∈ o.after, Region.binds .any e = true → e.on < i) ∧ (∀ cs b, o.op ≠ .select cs b) := by
    intro i hi
    have := hP i (List.mem_range.2 hi)
    cases ho : l[i]? with
    | none => rw [ho] at this; cases this
    | some o =>
      rw [ho] at this
      simp only [Bool.and_eq_true] at this
      obtain ⟨⟨⟨h1, h2⟩, h3⟩, h4⟩ := this
      refine ⟨o, rfl, fun d hd => ?_, fun t ht j hj e => ?_, fun e he hb => ?_, fun cs b e => by rw [e] at h4; cases h4⟩
      · rw [hd] at h1
        simp only [Bool.and_eq_true, decide_eq_true_eq, List.all_eq_true, List.mem_range] at h1
        refine ⟨h1.1, fun j hj hji e => ?_⟩
        have := h1.2 j hj
        simp [hji, e] at this
      · have := List.all_eq_true.1 h2 t ht
        have := List.all_eq_true.1 this j (List.mem_range.2 hj)
        simpa [e] using this
      · have := List.all_eq_true.1 h3 e (Array.mem_toList_iff.2 he)
        simpa [hb] using this
  have take_get : ∀ j, j < k → (l.take k)[j]? = l[j]? := fun j hj => by rw [List.getElem?_take, if_pos hj]
  have take_len : (l.take k).length = k := by rw [List.length_take, Nat.min_eq_left (by omega)]
  have ovget : ∀ x t, (∀ j, j < k → dstOf l j ≠ some t) → (ov a0 (l.take k) 0 x).tmps[t]? = a0.tmps[t]? := fun x t h =>
    ov_get _ _ _ _ _ fun j hj => by rw [take_len] at hj; rw [take_get j hj]; exact h j hj
  have ovat : ∀ x j d, j < k → dstOf l j = some d → (ov a0 (l.take k) 0 x).tmps[d]? = some (x j) := fun x j d hj hd => by
    obtain ⟨o, ho, hdd, -⟩ := one j hj
    have hd' : o.dst = some d := by unfold dstOf at hd; rw [ho] at hd; simpa using hd
    obtain ⟨hsz, hu⟩ := hdd d hd'
    have := ov_at (l.take k) a0 0 x j d (by rw [take_len]; exact hj) (by rw [take_get j hj]; exact hd) hsz (fun j' h1 h2 => by rw [take_len] at h1; rw [take_get j' h1]; exact hu j' h1 h2)
    rw [this]; congr 2; omega
  refine wp_region_lit ?_
  have main : ∀ (n i : Nat) (a : Act) (w : World) (s' : SH) (x : Nat → Value), i + n = k → MidL l k a0 E s L X cn ini G i a w s' x → wpList P l.toArray Q (l.drop i) a w := by
    intro n
    induction n with
    | zero =>
      intro i a w s' x hin M
      have hi : i = k := by omega
      subst hi
      have ha : a = ov a0 (l.take i) 0 x := act_ext (fun t => by
        by_cases ht : ∃ j, j < i ∧ dstOf l j = some t
        · obtain ⟨j, hj, hd⟩ := ht
          rw [ovat x j t hj hd, M.at_ j t hj hd]
        · have ht' : ∀ j, j < i → dstOf l j ≠ some t := fun j hj hd => ht ⟨j, hj, hd⟩
          rw [ovget x t ht', M.get t (fun j hj => ht' j hj)]) (by rw [M.defers, (ov_size _ _ _ _).2])
      rw [List.drop_of_length_le (by omega), ha]
      refine wpList_nil ?_
      exact hfin s' w x M.sub (by have h := M.H; rw [initA_all (fun j hj => by simp [hj]), List.nil_append] at h; exact h) fun j hj => M.g j hj
    | succ n ih =>
      intro i a w s' x hin M
      have hik : i < k := by omega
      obtain ⟨o, ho, hdd, hlook, hedge, hsel⟩ := one i hik
      have hdrop : l.drop i = o :: l.drop (i + 1) := by
        rw [List.drop_eq_getElem_cons (by omega)]
        congr 1
        have := List.getElem?_eq_getElem (l := l) (i := i) (by omega)
        rw [ho] at this; exact (Option.some.inj this).symm
      have hdi : ∀ j, dep o j = true → j < i := fun j hd => by
        unfold dep at hd
        obtain ⟨e, he, h⟩ := List.any_eq_true.1 hd
        rw [Bool.and_eq_true] at h
        have := hedge e (Array.mem_toList_iff.1 he) h.1
        have h2 : e.on = j := by simpa using h.2
        omega
      -- the operation reads the same in the frame with all values laid
      have same : ∀ t ∈ o.looksAt l.toArray, a.tmps[t]? = (ov a0 (l.take k) 0 x).tmps[t]? := fun t ht => by
        by_cases h : ∃ j, j < k ∧ dstOf l j = some t
        · obtain ⟨j, hj, hjd⟩ := h
          have hl := hdi j (hlook t ht j hj hjd)
          rw [M.at_ j t hl hjd, ovat x j t hj hjd]
        · have h' : ∀ j, j < k → dstOf l j ≠ some t := fun j hj hjd => h ⟨j, hj, hjd⟩
          rw [M.get t (fun j hj => h' j (by omega)), ovget x t h']
      have hexec : execOp a.eval o = execOp (ov a0 (l.take k) 0 x).eval o := execOp_congr o hsel fun y hy => by
        cases y with
        | tmp t =>
          have := same t (List.mem_append_left _ (List.mem_filterMap.2 ⟨.tmp t, by simpa using hy, rfl⟩))
          simp only [Act.eval]
          simp [this]
        | _ => rfl
      have hwant : Region.wanted o (yielded l.toArray a.tmps) = Region.wanted o (yielded l.toArray (ov a0 (l.take k) 0 x).tmps) := by
        unfold Region.wanted
        cases hg : o.guard with
        | none => rfl
        | some gw =>
          obtain ⟨g, want⟩ := gw
          have hy : yielded l.toArray a.tmps g = yielded l.toArray (ov a0 (l.take k) 0 x).tmps g := by
            unfold yielded
            cases ht : (l.toArray[g]?).bind (·.dst) with
            | none => rfl
            | some t =>
              have := same t (by simp only [Oper.looksAt, hg, ht]; simp)
              simp only [Option.bind_some, this]
          simp only [hy]

      have hgd : ∀ j, j < i → dep o j = true → G j s' (x j) := fun j hj _ => M.g j hj
      have hiu : (fun j => decide (j < i)) i = false := by simp
      have hin' : ∀ j, j < k → cn j = i → (fun j => decide (j < i)) j = true := fun j hj hc => by
        obtain ⟨o2, h1, h2, -⟩ := hcn j hj (by rw [hc]; exact hik)
        rw [hc, ho] at h1
        cases h1
        simpa using hdi j h2
      have hou : cn i < k → (fun j => decide (j < i)) (cn i) = false ∧ cn i ≠ i := fun hc => by
        obtain ⟨o2, h1, h2, h3⟩ := hcn i hik hc
        refine ⟨?_, h3⟩
        obtain ⟨o3, ho3, -, -, hedge3, -⟩ := one (cn i) hc
        rw [h1] at ho3
        cases ho3
        have : i < cn i := by
          unfold dep at h2
          obtain ⟨e, he, h⟩ := List.any_eq_true.1 h2
          rw [Bool.and_eq_true] at h
          have := hedge3 e (Array.mem_toList_iff.1 he) h.1
          have h4 : e.on = i := by simpa using h.2
          omega
        simp; omega
      have HIN2 : Holds E s' (inpO k X cn i x ++ (ini i ++ (L ++ (restO k X cn (fun j => decide (j < i)) i x ++ initR k ini (fun j => decide (j < i)) i)))) w := M.H.perm
        (((alive_in (lst := fun j => decide (j < i)) hik hiu hin').append ((initA_in (ini := ini) (lst := fun j => decide (j < i)) hik hiu).append_right L)).trans (permA _ _ _ _ _))
      have go : ∀ v s'' w'', Sub s' s'' → Holds E s'' (X i v ++ (L ++ (restO k X cn (fun j => decide (j < i)) i x ++ initR k ini (fun j => decide (j < i)) i))) w'' → G i s'' v → wpList P l.toArray Q (l.drop (i + 1)) (a.put o.dst v) w'' := by
        intro v s'' w'' hs hH hv
        refine ih (i + 1) (a.put o.dst v) w'' s'' (fun j => if j = i then v else x j) (by omega) ⟨M.sub.trans hs, hH.perm ?_, ?_, ?_, ?_, ?_, ?_⟩
        · have hls : ∀ j, j < k → (fun j => decide (j < i + 1)) j = (decide (j = i) || (fun j => decide (j < i)) j) := fun j hj => by
            rw [Bool.eq_iff_iff]; simp; omega
          have hp := alive_out (X := X) (cn := cn) (x := x) (lst := fun j => decide (j < i)) (lst' := fun j => decide (j < i + 1)) hik hiu hou hls v
          rw [initA_out (lst := fun j => decide (j < i)) hls]
          exact (permB _ _ _ _).trans ((hp.symm).append_right _)
        · intro j hj
          show G j s'' (if j = i then v else x j)
          by_cases e : j = i
          · subst e; rw [if_pos rfl]; exact hv
          · rw [if_neg e]; exact hmono j (by omega) _ _ _ hs (M.g j (by omega))
        · cases hd : o.dst with
          | none => simpa [Act.put] using M.size
          | some d => simpa [Act.put] using M.size
        · cases hd : o.dst with
          | none => simpa [Act.put] using M.defers
          | some d => simpa [Act.put] using M.defers
        · intro t ht
          have hold := M.get t fun j hj => ht j (by omega)
          cases hd : o.dst with
          | none => simpa [Act.put] using hold
          | some d =>
            have hti : d ≠ t := fun e => ht i (by omega) (by unfold dstOf; rw [ho]; simp only [Option.bind_some]; rw [hd, e])
            simp only [Act.put]
            rw [Array.getElem?_setIfInBounds_ne hti]
            exact hold
        · intro j d' hj hjd
          show (a.put o.dst v).tmps[d']? = some (if j = i then v else x j)
          by_cases e : j = i
          · subst e
            have hd : o.dst = some d' := by unfold dstOf at hjd; rw [ho] at hjd; simpa using hjd
            obtain ⟨hdsz, -⟩ := hdd d' hd
            rw [hd, if_pos rfl]
            simp [Act.put, M.size, hdsz]
          · rw [if_neg e]
            have hold := M.at_ j d' (by omega) hjd
            cases hd : o.dst with
            | none => simpa [Act.put] using hold
            | some d =>
              have hne : d ≠ d' := fun ee => (hdd d hd).2 j (by omega) e (by rw [ee]; exact hjd)
              simp only [Act.put]
              rw [Array.getElem?_setIfInBounds_ne hne]
              exact hold
      rw [hdrop]
      have hh := hop i o hik ho s' w x (fun v w'' => wpList P l.toArray Q (l.drop (i + 1)) (a.put o.dst v) w'') (restO k X cn (fun j => decide (j < i)) i x ++ initR k ini (fun j => decide (j < i)) i) M.sub HIN2 hgd go
      rw [← hwant] at hh
      refine wpList_step fun K hK => ?_
      split
      · rename_i hw
        rw [if_pos hw] at hh
        refine OpG.wp ?_
        have h2 : OpG P o a w fun v w'' => wpList P l.toArray Q (l.drop (i + 1)) (a.put o.dst v) w'' := by
          unfold OpG at hh ⊢
          rw [hexec]; exact hh
        exact h2.mono' fun _ _ k => hK _ _ k
      · rename_i hw
        rw [if_neg hw] at hh
        exact hK _ _ hh
  have h0 := main k 0 a0 w s (fun _ => undef) (by omega) ⟨Sub.refl s, by
    rw [alive_none (fun j _ => by simp), List.nil_append, initA_congr (lst' := fun _ => false) (fun j _ => by simp)]; exact H, fun j hj => by omega, rfl, rfl, fun _ _ => rfl, fun j d hj => by omega⟩
  simpa using h0
end
theorem wpList_nil' {P : Program} {ops : Array Oper} {Q : Exit → Act → World → Prop} {a : Act} {w : World} (h : wpList P ops Q [] a w) : Q .normal a w := h
theorem wp_plain_obO {P : Program} {id k sz : Nat} {l pre : List Oper} {A : (Nat → Value) → Act} {Q : Exit → Act → World → Prop} {a0 : Act} {w : World} {E : World} {s : SH} {L : List HP} (cn : List Nat) (ini : Nat → List HP)
    (hk : k = l.length) (hsz : a0.tmps.size = sz) (hpre : preOkS l k sz = true) (hcn : cnOk l k cn = true) (H : Holds E s (initA k ini (fun _ => false) ++ L) w)
    (e1 : l.take k = pre) (eA : ∀ x, ov a0 pre 0 x = A x)
    (hob : ObO P l.toArray A E s L cn ini (fun G Xs => ∀ (s' : SH) (w' : World) (x : Nat → Value), Sub s s' → Holds E s' (alX cn Xs k x 0 ++ L) w' → gh s' x G 0 → wpList P l.toArray Q [] (A x) w') pre 0 [] []) :
    (Code.region id l.toArray false).wp P Q a0 w := by
  obtain ⟨F, Y, hl, hl2, hF, h⟩ := obO_all pre 0 [] [] rfl rfl hob
  rw [List.nil_append, List.nil_append] at hF
  have hpl : pre.length = k := by rw [← e1, List.length_take, Nat.min_eq_left (by omega)]
  have hlen : F.length = k := by rw [hl, hpl]
  have hlenY : Y.length = k := by rw [hl2, hpl]
  unfold cnOk at hcn
  rw [Bool.and_eq_true, decide_eq_true_eq] at hcn
  obtain ⟨hcl, hcn⟩ := hcn
  have hc : ∀ j, j < k → cn.getD j k < k → j < cn.getD j k ∧ ∃ o, l[cn.getD j k]? = some o ∧ dep o j = true := fun j hj hlt => by
    have := List.all_eq_true.1 hcn j (List.mem_range.2 hj)
    rw [Bool.or_eq_true, decide_eq_true_eq, Bool.and_eq_true, decide_eq_true_eq] at this
    rcases this with h | ⟨h1, h2⟩
    · omega
    · refine ⟨h1, ?_⟩
      split at h2
      · cases h2
      · rename_i o ho; exact ⟨o, ho, h2⟩
  have hget : ∀ i, i < k → F[i]? = some (F.getD i (fun _ _ => True)) := fun i hi => by
    rw [List.getD_eq_getElem?_getD, List.getElem?_eq_getElem (by omega)]; rfl
  have hgetY : ∀ i, i < k → Y[i]? = some (Y.getD i noX) := fun i hi => by
    rw [List.getD_eq_getElem?_getD, List.getElem?_eq_getElem (by omega)]; rfl
  refine wp_plainO (k := k) hk (by rw [hsz]; exact hpre) (fun i => Y.getD i noX) (fun j => cn.getD j k) ini H (fun j hj hlt => ?_) (fun i => F.getD i (fun _ _ => True)) (fun i hi => ?_) (fun i o hi ho s' w' x Φ R hs hH hg hΦ => ?_) (fun s' w' x hs hH hg => ?_)
  · obtain ⟨h1, o, h2, h3⟩ := hc j hj hlt
    exact ⟨o, h2, h3, by omega⟩
  · have hp : pre[i]? = some l[i] := (congrArg (·[i]?) e1.symm).trans (by rw [List.getElem?_take, if_pos hi, List.getElem?_eq_getElem (by omega)])
    exact (h i _ _ _ hp (hget i hi) (hgetY i hi)).1
  · have hp : pre[i]? = some o := (congrArg (·[i]?) e1.symm).trans (by rw [List.getElem?_take, if_pos hi]; exact ho)
    rw [e1, eA]
    refine (h i o _ _ hp (hget i hi) (hgetY i hi)).2 s' w' x Φ R hs ?_ ?_ hΦ
    · have e : inX cn ([] ++ Y.take i) (0 + i) x 0 = inpO k (fun i => Y.getD i noX) (fun j => cn.getD j k) i x := by
        rw [List.nil_append, Nat.zero_add, inX_eq (k := k) _ _ _ (by rw [List.length_take]; omega)]
        unfold inpO
        rw [fm_cut (i := i) k (by omega) (fun j h1 h2 => ?_)]
        · have e3 : (Y.take i).length = i := by rw [List.length_take]; omega
          rw [e3]
          refine fm_congr fun j hj => ?_
          have hji := List.mem_range.1 hj
          rw [Nat.zero_add]
          have e4 : (Y.take i).getD j noX = Y.getD j noX := by
            rw [List.getD_eq_getElem?_getD, List.getD_eq_getElem?_getD, List.getElem?_take, if_pos hji]
          rw [e4]
        · by_cases e5 : cn.getD j k = i
          · have := (hc j h2 (by rw [e5]; exact hi)).1
            omega
          · rw [if_neg e5]
      rw [e, Nat.zero_add]; exact hH
    · rw [List.nil_append]
      refine dh_of (F := fun i => F.getD i (fun _ _ => True)) _ _ (fun j hj => ?_) (fun j hj hd => ?_)
      · have hj' : j < i := by rw [List.length_take] at hj; omega
        rw [List.getElem?_take, if_pos hj', Nat.zero_add]; exact hget j (by omega)
      · have hj' : j < i := by rw [List.length_take] at hj; omega
        rw [Nat.zero_add] at hd ⊢; exact hg j hj' hd
  · rw [e1, eA]
    refine wpList_nil' (hF s' w' x hs ?_ ?_)
    · have e : alX cn Y k x 0 = alive k (fun i => Y.getD i noX) (fun j => cn.getD j k) (fun j => decide (j < k)) x := by
        rw [alX_eq _ _ _ (by omega), hlenY]
        unfold alive
        refine fm_congr fun j hj => ?_
        have hjk := List.mem_range.1 hj
        rw [Nat.zero_add]
        unfold aliveP
        by_cases e5 : cn.getD j k < k
        · simp only [e5, hjk, if_true, decide_true, Bool.true_and, Bool.not_true, Bool.and_true]; rfl
        · simp only [e5, hjk, if_false, decide_true, decide_false, Bool.false_and, Bool.not_false, Bool.and_true, if_true]
      rw [e]; exact hH
    · refine gh_of (F := fun i => F.getD i (fun _ _ => True)) _ _ (fun j hj => ?_) (fun j hj => ?_)
      · rw [Nat.zero_add]; exact hget j (by omega)
      · rw [Nat.zero_add]; exact hg j (by omega)
end Go.Proofs.YtemdmpgekegfhaaDoor
