/- State.Text: its text, walked, and what two texts tell. -/
import Derived.Test.YtemdmpgekegfhaaDoorTxL
import Derived.Test.YtemdmpgekegfhaaDoorData
import Derived.Lib.AppendIntMem
import Derived.Lib.ItoaLen
import Derived.Lib.Hide
import Derived.Test.YtemdmpgekegfhaaDoorMapF
import Derived.Sort.KeysCollected
import Derived.Test.YtemdmpgekegfhaaDoorMap
import Derived.Test.YtemdmpgekegfhaaDoorKinds
import Derived.Test.YtemdmpgekegfhaaDoorRange
section
namespace Go.Proofs.YtemdmpgekegfhaaDoor
open Go.RowKit
set_option linter.all false
set_option maxRecDepth 10000

theorem bAt_below {T e : TypeId} {B b : Nat} {p : Value} {bs : List Value} {W W' : World} (h : Lib.BuilderAtF T e B b p bs W) (hb : Below W.heap.size W W') : Lib.BuilderAtF T e B b p bs W' := by
  have hlt := h.lt
  obtain ⟨hB, v, hv, hown, hne⟩ := h
  exact ⟨hB, v, (hb.block b hlt).trans hv, hown.kept (row := none) ⟨hb.os, hb.tape, hb.output, hb.size, fun k hk _ => hb.block k hk⟩ (Classical.em _), hne⟩
theorem bIs_below {T e : TypeId} {B b : Nat} {bs : List Value} {W W' : World} (h : Lib.IsBuilderF T e B b bs W) (hb : Below W.heap.size W W') : Lib.IsBuilderF T e B b bs W' :=
  h.elim (fun x => .inl (bAt_below x hb)) (fun x => .inr (bAt_below x hb))
/-- All that lay stands: so all but the builder stands. -/
theorem kept_below {e : TypeId} {b : Option Nat} {W W' : World} (hb : Below W.heap.size W W') : Lib.OthersKept e b W W' := fun k o hk _ _ => by
  have hlt : k < W.heap.size := (Array.getElem?_eq_some_iff.1 hk).1
  rw [hb.block k hlt]; exact hk
def tok (x : List UInt8) : List UInt8 := Lib.itoa x.length ++ 58 :: x
def toks (xs : List (List UInt8)) : List UInt8 := xs.flatMap tok
theorem toks_step {xs : List (List UInt8)} {t : Nat} (h : t < xs.length) : toks (xs.take (t + 1)) = toks (xs.take t) ++ tok xs[t] := by
  unfold toks; rw [List.take_succ_eq_append_getElem h, List.flatMap_append]; simp
theorem toks_le {xs : List (List UInt8)} (t : Nat) : (toks (xs.take t)).length ≤ (toks xs).length := by
  have : toks xs = toks (xs.take t) ++ toks (xs.drop t) := by unfold toks; rw [← List.flatMap_append, List.take_append_drop]
  rw [this, List.length_append]; omega
theorem toks_ge : ∀ xs : List (List UInt8), xs.length ≤ (toks xs).length
  | [] => Nat.zero_le _
  | x :: r => by
    have := toks_ge r
    unfold toks at *
    rw [List.flatMap_cons, List.length_append, List.length_cons]
    simp only [tok, List.length_append, List.length_cons]
    omega
abbrev pow10At (w : World) : Prop := Lib.TabIs Tryd.prog w "internal/strconv.uint64pow10" .u64 Lib.pow10Tab
abbrev pow10On (B : Nat) (w : World) : Prop := Lib.TabBelow Tryd.prog B w "internal/strconv.uint64pow10" .u64 Lib.pow10Tab
def strV (x : List UInt8) : Value := .string ⟨x.toArray⟩
/-! ### strings.Builder's writers, as the library's own contracts have them ('_k'), at this program (its copyCheck ends where a builder was copied: the kit's layings do not fit) -/
set_option maxHeartbeats 1000000 in
theorem bcc_used (b : Nat) (w : World) (h0 : w.cell? ⟨b, 0, none⟩ = some (.pointer (some ⟨b, 0, none⟩))) :
    Calls Tryd.prog 129 #[.pointer (some ⟨b, 0, none⟩)] w fun e w' => e = .returned (.tuple #[]) ∧ w' = w := by
  have hne : (binOp .neq 144 (.pointer (some ⟨b, 0, none⟩)) (.pointer (some ⟨b, 0, none⟩))).run Tryd.prog w = .ok (.bool false) w := Lib.run_neq_ptr_same w _ Tryd.underlying144 (info_of Tryd.type147)
  go_enter Tryd.func129, Tryd.ntmps129
  go_wp2
  go_end0
  exact ⟨rfl, rfl⟩
set_option maxHeartbeats 1000000 in
theorem bcc_fresh (b : Nat) (w : World) (h0 : w.cell? ⟨b, 0, none⟩ = some (.pointer none)) (hsh : w.shape? b = some (147, 2)) (hfz : w.frozen? ⟨b, 0, none⟩ = false) :
    Calls Tryd.prog 129 #[.pointer (some ⟨b, 0, none⟩)] w fun e w' => e = .returned (.tuple #[]) ∧ w' = w.setCell ⟨b, 0, none⟩ (.pointer (some ⟨b, 0, none⟩)) := by
  have hc : (w.setCell ⟨b, 0, none⟩ (.pointer (some ⟨b, 0, none⟩))).cell? ⟨b, 0, none⟩ = some (.pointer (some ⟨b, 0, none⟩)) := by
    simp only [World.cell?] at h0 ⊢
    cases hb : w.heap[b]? with
    | none => rw [hb] at h0; cases h0
    | some o =>
      rw [hb] at h0
      cases o with
      | cells c e fr =>
        have hz : c[0]? = some (.pointer none) := by simpa using h0
        have hc0 : 0 < c.size := (Array.getElem?_eq_some_iff.1 hz).1
        simp [World.setCell, Array.getElem?_modify, hb, hc0]
      | _ => simp at h0
  have hne : ∀ w : World, (binOp .neq 144 (.pointer (some ⟨b, 0, none⟩)) (.pointer (some ⟨b, 0, none⟩))).run Tryd.prog w = .ok (.bool false) w := fun w => Lib.run_neq_ptr_same w _ Tryd.underlying144 (info_of Tryd.type147)
  go_enter Tryd.func129, Tryd.ntmps129
  go_wp2
  rw [Lib.run_to_unsafe w ⟨b, 0, none⟩ Tryd.underlying144 Tryd.underlying187 (info_of Tryd.type147) (by decide) hsh (Nat.zero_lt_succ 1)]
  simp only [Result.andThen]
  rw [Oper.upon_value]
  go_wp2
  rw [run_callFunc_extern Tryd.func164 (by kernel_rfl) (by kernel_rfl) (by kernel_rfl) (e := Extern.AbiNoEscape.same) (by kernel_rfl)]
  rw [Lib.run_noEscape]
  simp only [Result.andThen]
  rw [Oper.upon_value]
  go_wp2
  rw [Lib.run_from_unsafe w ⟨b, 0, none⟩ Tryd.underlying187 Tryd.underlying144 (info_of Tryd.type147) hsh (by kernel_rfl)]
  simp only [Result.andThen]
  rw [Oper.upon_value]
  go_wp2
  go_end0
  exact ⟨rfl, rfl⟩
theorem bcc_k (B b : Nat) (bs : List Value) (w : World) (h : Lib.IsBuilderF 147 5 B b bs w) :
    Calls Tryd.prog 129 #[.pointer (some ⟨b, 0, none⟩)] w fun e w' => e = .returned (.tuple #[]) ∧ (Lib.BuilderAtF 147 5 B b (.pointer (some ⟨b, 0, none⟩)) bs w' ∧ Below B w w' ∧ Lib.OthersKept 5 (some b) w w') := by
  rcases h with h | h
  · refine (bcc_fresh b w h.cell0 h.shape h.frozen0).mono ?_
    rintro e w' ⟨rfl, rfl⟩
    exact ⟨rfl, h.used _, (Below.refl B w).setCell (p := ⟨b, 0, none⟩) h.1 _, (Lib.OthersKept.refl _ _ w).setCell ⟨b, 0, none⟩ rfl _⟩
  · refine (bcc_used b w h.cell0).mono ?_
    rintro e w' ⟨rfl, rfl⟩
    exact ⟨rfl, h, Below.refl B _, Lib.OthersKept.refl _ _ _⟩
set_option maxHeartbeats 2000000 in
theorem wbyte_k (B b : Nat) (bs : List Value) (c : Int) (w : World) (h : Lib.IsBuilderF 147 5 B b bs w) (hlen : bs.length + 1 ≤ 140737488355328) (hBw : B ≤ w.heap.size) :
    Calls Tryd.prog 85 #[.pointer (some ⟨b, 0, none⟩), .int .u8 c] w fun e w' => e = .returned .nilIface ∧ (Lib.BuilderAtF 147 5 B b (.pointer (some ⟨b, 0, none⟩)) (bs ++ [.int .u8 c]) w' ∧ Below B w w' ∧ Lib.OthersKept 5 (some b) w w') := by
  go_enter Tryd.func85, Tryd.ntmps85
  go_wp2_with (go_at_call 129; refine (bcc_k B b bs _ h).mono ?_)
  rintro e w1 ⟨rfl, h1, hb1, hk1⟩
  obtain ⟨hB, v, hbk, hown, hne⟩ := h1
  have c0 : w1.cell? ⟨b, 0, none⟩ = some (.pointer (some ⟨b, 0, none⟩)) := by rw [Lib.cell_of_heap hbk]; rfl
  have c1 : w1.cell? ⟨b, 1, none⟩ = some v := by rw [Lib.cell_of_heap hbk]; rfl
  go_wp2_with (at_builtin; refine wpList_append_ownF _ rfl _ _ 145 rfl B 5 _ (.int .u8 0) 1 1 Tryd.underlying145 (info_of Tryd.type5) rfl rfl rfl rfl (by decide) _ _ _ rfl (hown.alloc _) (⟨w1.heap.size, 0, none⟩ : Addr) 1 1 [.int .u8 c] rfl rfl ?c1 ?c2 ?c3 ?c4 ?c5 ?_)
  case c1 =>
    intro j u hj
    match j, hj with
    | 0, hj => simp at hj; subst hj; simp [Addr.add]
  case c2 => intro u hu; simp at hu; subst hu; rfl
  case c3 => unfold maxLen; omega
  case c4 => omega
  case c5 => have := hb1.size; simp; omega
  intro v' w2 hown' hgrow _
  have hlt : b < w1.heap.size := by
    rcases Nat.lt_or_ge b w1.heap.size with h' | h'
    · exact h'
    · simp [Array.getElem?_eq_none h'] at hbk
  have hb2 : w2.heap[b]? = some (.cells #[.pointer (some ⟨b, 0, none⟩), v] 147 (0, 0)) := by
    rw [hgrow.block b (by simp; omega) (fun e => hne e.symm), Lib.alloc_old w1 _ b hlt]
    exact hbk
  have d0 : w2.cell? ⟨b, 0, none⟩ = some (.pointer (some ⟨b, 0, none⟩)) := by rw [Lib.cell_of_heap hb2]; rfl
  have d1 : w2.cell? ⟨b, 1, none⟩ = some v := by rw [Lib.cell_of_heap hb2]; rfl
  have f1 : w2.frozen? ⟨b, 1, none⟩ = false := Lib.frozen_of_heap hb2 1
  obtain ⟨g, cap, rfl⟩ : ∃ g cap, v' = .slice (some ⟨g, 0, none⟩) (bs.length + 1) cap := by
    rcases hown'.2 with ⟨_, h0⟩ | ⟨g, cap, cur, fz, hv, _⟩
    · omega
    · exact ⟨g, cap, hv⟩
  go_wp2
  go_ret
  refine ⟨rfl, ?_, ?_, ((hk1.alloc _).grown hgrow (Lib.ownsRowF_kind (hown.alloc _))).setCell ⟨b, 1, none⟩ rfl _⟩
  · exact Lib.BuilderAtF.put (T := 147) (e := 5) hB hb2 (bs' := bs ++ [.int .u8 c]) (by simpa using hown') (by decide)
  · exact ((hb1.alloc (by have := hb1.size; omega) _).grown hgrow (by have := hb1.size; simp; omega) (fun k hk => (hown.lt k hk).1)).setCell (p := ⟨b, 1, none⟩) hB _
set_option maxHeartbeats 2000000 in
theorem wstr_k (B b : Nat) (bs : List Value) (s : ByteArray) (w : World) (h : Lib.IsBuilderF 147 5 B b bs w) (hlen : bs.length + s.size ≤ 140737488355328) (hBw : B ≤ w.heap.size) :
    Calls Tryd.prog 83 #[.pointer (some ⟨b, 0, none⟩), .string s] w fun e w' => e = .returned (.tuple #[.int .i64 s.size, .nilIface]) ∧ (Lib.BuilderAtF 147 5 B b (.pointer (some ⟨b, 0, none⟩)) (bs ++ Lib.strCells s) w' ∧ Below B w w' ∧ Lib.OthersKept 5 (some b) w w') := by
  go_enter Tryd.func83, Tryd.ntmps83
  go_wp2_with (go_at_call 129; refine (bcc_k B b bs _ h).mono ?_)
  rintro e w1 ⟨rfl, h1, hb1, hk1⟩
  obtain ⟨hB, v, hbk, hown, hne⟩ := h1
  have c0 : w1.cell? ⟨b, 0, none⟩ = some (.pointer (some ⟨b, 0, none⟩)) := by rw [Lib.cell_of_heap hbk]; rfl
  have c1 : w1.cell? ⟨b, 1, none⟩ = some v := by rw [Lib.cell_of_heap hbk]; rfl
  go_wp2_with (at_builtin; refine Lib.wpList_append_own_stringF _ rfl _ _ 145 9 rfl B 5 _ Tryd.underlying145 Tryd.underlying9 (info_of Tryd.type5) rfl rfl rfl _ _ _ rfl hown s rfl ?c3 ?c4 ?c5 ?_)
  case c3 => unfold maxLen; omega
  case c4 => omega
  case c5 => have := hb1.size; omega
  intro v' w2 hown' hgrow _
  have hlt : b < w1.heap.size := by
    rcases Nat.lt_or_ge b w1.heap.size with h' | h'
    · exact h'
    · simp [Array.getElem?_eq_none h'] at hbk
  have hb2 : w2.heap[b]? = some (.cells #[.pointer (some ⟨b, 0, none⟩), v] 147 (0, 0)) := by
    rw [hgrow.block b hlt (fun e => hne e.symm)]
    exact hbk
  have d0 : w2.cell? ⟨b, 0, none⟩ = some (.pointer (some ⟨b, 0, none⟩)) := by rw [Lib.cell_of_heap hb2]; rfl
  have d1 : w2.cell? ⟨b, 1, none⟩ = some v := by rw [Lib.cell_of_heap hb2]; rfl
  have f1 : w2.frozen? ⟨b, 1, none⟩ = false := Lib.frozen_of_heap hb2 1
  obtain ⟨ao, n', cap, rfl⟩ : ∃ ao n' cap, v' = .slice ao n' cap := by
    rcases hown'.2 with ⟨hv, _⟩ | ⟨g, cap, cur, fz, hv, _⟩
    · exact ⟨_, _, _, hv⟩
    · exact ⟨_, _, _, hv⟩
  go_wp2
  go_ret2
  refine ⟨rfl, ?_, ?_, (hk1.grown hgrow (Lib.ownsRowF_kind hown)).setCell ⟨b, 1, none⟩ rfl _⟩
  · exact Lib.BuilderAtF.put (T := 147) (e := 5) hB hb2 (bs' := bs ++ Lib.strCells s) (by simpa [Lib.strCells_length] using hown') (by decide)
  · exact (hb1.grown hgrow (by have := hb1.size; omega) (fun k hk => (hown.lt k hk).1)).setCell (p := ⟨b, 1, none⟩) hB _
set_option maxHeartbeats 2000000 in
theorem put_c {w : World} {B b blk : Nat} {acc : List UInt8} {xs : List (List UInt8)} (hI : Lib.IsBuilderF 147 5 B b (Lib.byteCells acc) w) (hBw : B ≤ w.heap.size)
    (hrow : w.heap[blk]? = some (.cells (xs.map strV).toArray 9 (0, 0))) (hbb : blk ≠ b) (htab : pow10On B w) (hlen : acc.length + (toks xs).length ≤ 140737488355328) :
    Calls Tryd.prog 82 #[.slice (some ⟨blk, 0, none⟩) xs.length xs.length, .pointer (some ⟨b, 0, none⟩)] w fun e w' => e = .returned (.tuple #[]) ∧
      (Lib.IsBuilderF 147 5 B b (Lib.byteCells (acc ++ toks xs)) w' ∧ Below B w w' ∧ Lib.OthersKept 5 (some b) w w') := by
  have HT := Lib.hid htab
  have HL := Lib.hid hlen
  have hxn : xs.length ≤ 140737488355328 := by have := toks_ge xs; omega
  clear htab hlen
  go_enter Tryd.func82, Tryd.ntmps82
  go_wp2
  go_loopw [7] (fun i wr => ∃ t : Nat, t ≤ xs.length ∧ i = .int .i64 t ∧ Lib.IsBuilderF 147 5 B b (Lib.byteCells (acc ++ toks (xs.take t))) wr ∧ Below B w wr ∧ Lib.OthersKept 5 (some b) w wr) (fun i _ => xs.length - (intOf i).toNat)
  case atStart => exact ⟨0, Nat.zero_le _, rfl, by simpa [toks] using hI, Below.refl B w, Lib.OthersKept.refl _ _ _⟩
  case round =>
    clear hI
    obtain ⟨t, ht, rfl, hI, hb, hk⟩ := hrel
    by_cases hlt : t < xs.length
    · have hr := hk blk _ hrow (fun e => hbb (Option.some.inj e)) (fun c fz e => by cases e)
      have c0 : wr.cell? ⟨blk, t, none⟩ = some (strV xs[t]) := by
        rw [Lib.cell_of_heap hr]; simp [hlt]
      have hs := toks_step hlt
      have hle := toks_le (xs := xs) (t + 1)
      rw [hs] at hle
      generalize hx : xs[t] = x at c0 hs hle
      clear hx hr
      have hxl : x.length ≤ 140737488355328 := by
        have := HL.out
        simp only [tok, List.length_append, List.length_cons] at hle
        omega
      have hit : Lib.itoa (x.length : Int) = Lib.itoa (⟨x.toArray⟩ : ByteArray).size := by simp [ByteArray.size]
      have hl1 : (acc ++ toks (xs.take t)).length + (Lib.itoa x.length).length + 1 + x.length ≤ 140737488355328 := by
        have := HL.out
        simp only [tok, List.length_append, List.length_cons] at hle ⊢
        omega
      have hsz : B ≤ wr.heap.size := by have := hb.size; omega
      have H1 := Lib.hid hl1
      have HS := Lib.hid hs
      have HX := Lib.hid hxl
      clear hl1 hs hle hit hxl
      unfold strV at c0
      go_wp2_with (first
        | (go_at_call 84; refine (Tryd.strconv_Itoa _ (by omega) (by have := HX.out; simp [ByteArray.size]; omega) _ ((HT.out.on hb).here)).mono ?_; rintro e w1 ⟨rfl, k, os, e1⟩
           have b1 : Below wr.heap.size wr w1 := by rw [e1]; exact Lib.below_grow _ wr (Nat.le_refl _) k os
           have I1 := bIs_below hI b1
           have k1 : Lib.OthersKept 5 (some b) wr w1 := kept_below b1
           have B1 : Below B wr w1 := b1.mono hsz
           clear e1 hI b1)
        | (go_at_call 83; refine (wstr_k B b _ _ w1 I1 (by have := H1.out; rw [Lib.byteCells_length]; simp [ByteArray.size] at *; omega) (by have := B1.size; omega)).mono ?_; clear I1; rintro e w2 ⟨rfl, I2, B2, k2⟩)
        | (go_at_call 85; refine (wbyte_k B b _ _ w2 (.inr I2) (by have := H1.out; simp [Lib.byteCells_length, Lib.strCells, ByteArray.size] at *; omega) (by have := B1.size; have := B2.size; omega)).mono ?_; clear I2; rintro e w3 ⟨rfl, I3, B3, k3⟩)
        | (go_at_call 83; refine (wstr_k B b _ _ w3 (.inr I3) (by have := H1.out; simp [Lib.byteCells_length, Lib.strCells, ByteArray.size] at *; omega) (by have := B1.size; have := B2.size; have := B3.size; omega)).mono ?_; clear I3; rintro e w4 ⟨rfl, I4, B4, k4⟩))
      refine ⟨⟨t + 1, by omega, by go_num, ?_, (((hb.trans B1).trans B2).trans B3).trans B4, (((hk.trans k1).trans k2).trans k3).trans k4⟩, ?_⟩
      · rw [HS.out]
        refine .inr ?_
        have e : Lib.byteCells (acc ++ (toks (xs.take t) ++ tok x)) = Lib.byteCells (acc ++ toks (xs.take t)) ++ Lib.strCells ⟨(Lib.itoa (⟨x.toArray⟩ : ByteArray).size).toArray⟩ ++ [.int .u8 58] ++ Lib.strCells ⟨x.toArray⟩ := by
          simp [Lib.byteCells, Lib.strCells, tok, ByteArray.size]
        rw [e]; exact I4
      · simp only [intOf]; omega
    · have htl : t = xs.length := by omega
      rw [htl, List.take_length] at hI
      subst htl
      go_wp2
      go_end0
      exact ⟨rfl, hI, hb, hk⟩
end Go.Proofs.YtemdmpgekegfhaaDoor
end

section
namespace Go.Proofs.YtemdmpgekegfhaaDoor
open Go.RowKit
set_option linter.all false
set_option maxRecDepth 10000

theorem dec_char : ∀ (u : Nat), ∀ c ∈ Lib.decDigits u, 48 ≤ c.toNat ∧ c.toNat ≤ 57 := by
  intro u
  induction u using Nat.strongRecOn with
  | _ u ih =>
    intro c hc
    rw [Lib.decDigits] at hc
    have hd : ∀ d, d < 10 → (UInt8.ofNat (48 + d)).toNat = 48 + d := fun d hd => by
      rw [UInt8.toNat_ofNat']; omega
    by_cases h : u < 10
    · rw [dif_pos h] at hc
      rw [List.mem_singleton.1 hc, hd u h]; omega
    · rw [dif_neg h] at hc
      rcases List.mem_append.1 hc with h1 | h1
      · exact ih (u / 10) (by omega) c h1
      · rw [List.mem_singleton.1 h1, hd _ (Nat.mod_lt _ (by omega))]; omega
def decVal (l : List UInt8) : Nat := l.foldl (fun a c => 10 * a + (c.toNat - 48)) 0
theorem dec_val : ∀ (u : Nat), decVal (Lib.decDigits u) = u := by
  intro u
  induction u using Nat.strongRecOn with
  | _ u ih =>
    have hd : ∀ d, d < 10 → (UInt8.ofNat (48 + d)).toNat = 48 + d := fun d hd => by
      rw [UInt8.toNat_ofNat']; omega
    rw [Lib.decDigits]
    by_cases h : u < 10
    · rw [dif_pos h]; simp only [decVal, List.foldl_cons, List.foldl_nil, hd u h]; omega
    · rw [dif_neg h]
      have := ih (u / 10) (by omega)
      unfold decVal at this ⊢
      rw [List.foldl_append, this]
      simp only [List.foldl_cons, List.foldl_nil, hd _ (Nat.mod_lt u (by omega))]; omega
theorem dec_inj {u v : Nat} (h : Lib.decDigits u = Lib.decDigits v) : u = v := by rw [← dec_val u, h, dec_val]
theorem dec_ne (u : Nat) : Lib.decDigits u ≠ [] := by
  rw [Lib.decDigits]; split
  · simp
  · simp
theorem itoa_first (n : Int) : ∃ c r, Lib.itoa n = c :: r ∧ (c.toNat = 45 ∨ (48 ≤ c.toNat ∧ c.toNat ≤ 57)) := by
  unfold Lib.itoa
  split
  · exact ⟨45, _, rfl, .inl rfl⟩
  · cases hd : Lib.decDigits n.toNat with
    | nil => exact (dec_ne _ hd).elim
    | cons c r => exact ⟨c, r, rfl, .inr (dec_char n.toNat c (by rw [hd]; simp))⟩
theorem itoa_inj {m n : Int} (h : Lib.itoa m = Lib.itoa n) : m = n := by
  unfold Lib.itoa at h
  have no : ∀ (a b : Nat), 45 :: Lib.decDigits a ≠ Lib.decDigits b := fun a b e => by
    have := dec_char b 45 (by rw [← e]; simp)
    simp at this
  split at h
  · split at h
    · have := dec_inj (List.cons.inj h).2; omega
    · exact (no _ _ h).elim
  · split at h
    · exact (no _ _ h.symm).elim
    · have := dec_inj h; omega
theorem cutC (z : UInt8) : ∀ {a a' b b' : List UInt8}, (∀ c ∈ a, c ≠ z) → (∀ c ∈ a', c ≠ z) → a ++ z :: b = a' ++ z :: b' → a = a' ∧ b = b'
  | [], [], b, b', _, _, h => ⟨rfl, (List.cons.inj h).2⟩
  | [], c :: a', b, b', _, h2, h => ((h2 c (by simp)) ((List.cons.inj h).1.symm)).elim
  | c :: a, [], b, b', h1, _, h => ((h1 c (by simp)) ((List.cons.inj h).1)).elim
  | c :: a, c' :: a', b, b', h1, h2, h => by
    have h3 := List.cons.inj h
    obtain ⟨e1, e2⟩ := cutC z (fun x hx => h1 x (by simp [hx])) (fun x hx => h2 x (by simp [hx])) h3.2
    exact ⟨by rw [h3.1, e1], e2⟩
theorem itoa_58 (n : Nat) : ∀ c ∈ Lib.itoa (n : Int), c ≠ 58 := fun c hc e => by
  have h1 : Lib.itoa (n : Int) = Lib.decDigits n := by unfold Lib.itoa; rw [if_neg (by omega)]; simp
  rw [h1] at hc
  have := dec_char n c hc
  rw [e] at this; simp at this
theorem tok_inj {x y r r' : List UInt8} (h : tok x ++ r = tok y ++ r') : x = y ∧ r = r' := by
  unfold tok at h
  rw [List.append_assoc, List.append_assoc, List.cons_append, List.cons_append] at h
  obtain ⟨e1, e2⟩ := cutC 58 (itoa_58 _) (itoa_58 _) h
  have e3 := itoa_inj e1
  exact List.append_inj e2 (by omega)
theorem toks_inj : ∀ {a b : List (List UInt8)}, toks a = toks b → a = b
  | [], [], _ => rfl
  | [], y :: b, h => by
    have := congrArg List.length h
    simp [toks, tok] at this
  | x :: a, [], h => by
    have := congrArg List.length h
    simp [toks, tok] at this
  | x :: a, y :: b, h => by
    have h2 : tok x ++ toks a = tok y ++ toks b := by simpa [toks] using h
    obtain ⟨e1, e2⟩ := tok_inj h2
    rw [e1, toks_inj e2]
def listS : List UInt8 := [108, 105, 115, 116]
def regS : List UInt8 := [114, 101, 103, 105, 115, 116, 101, 114]
def tokL (f : List UInt8 → List Int) (k : List UInt8) : List (List UInt8) := listS :: k :: (f k).map Lib.itoa
def tokR (g : List UInt8 → Int) (k : List UInt8) : List (List UInt8) := [regS, k, Lib.itoa (g k)]
def textT (ks1 : List (List UInt8)) (f : List UInt8 → List Int) (ks2 : List (List UInt8)) (g : List UInt8 → Int) : List (List UInt8) := ks1.flatMap (tokL f) ++ ks2.flatMap (tokR g)
theorem itoa_listS (n : Int) : Lib.itoa n ≠ listS := fun e => by
  obtain ⟨c, r, h1, h2⟩ := itoa_first n
  rw [h1] at e
  have := (List.cons.inj e).1
  subst this; simp at h2
theorem itoa_regS (n : Int) : Lib.itoa n ≠ regS := fun e => by
  obtain ⟨c, r, h1, h2⟩ := itoa_first n
  rw [h1] at e
  have := (List.cons.inj e).1
  subst this; simp at h2
/-- A row of tokens that begins none of a list's numbers. -/
def Starts (R : List (List UInt8)) : Prop := R = [] ∨ (∃ r, R = listS :: r) ∨ ∃ r, R = regS :: r
theorem starts_no {R r : List (List UInt8)} {n : Int} (h : Starts R) (e : R = Lib.itoa n :: r) : False := by
  rcases h with h | ⟨q, h⟩ | ⟨q, h⟩ <;> rw [h] at e
  · cases e
  · exact itoa_listS n (List.cons.inj e).1.symm
  · exact itoa_regS n (List.cons.inj e).1.symm
theorem cut_ints : ∀ {xs ys : List Int} {R R' : List (List UInt8)}, Starts R → Starts R' → xs.map Lib.itoa ++ R = ys.map Lib.itoa ++ R' → xs = ys ∧ R = R'
  | [], [], R, R', _, _, h => ⟨rfl, h⟩
  | [], y :: ys, R, R', hR, _, h => (starts_no hR h).elim
  | x :: xs, [], R, R', _, hR', h => (starts_no hR' h.symm).elim
  | x :: xs, y :: ys, R, R', hR, hR', h => by
    have h2 := List.cons.inj h
    obtain ⟨e1, e2⟩ := cut_ints hR hR' h2.2
    exact ⟨by rw [itoa_inj h2.1, e1], e2⟩
theorem startsB (ks : List (List UInt8)) (g : List UInt8 → Int) : Starts (ks.flatMap (tokR g)) := by
  cases ks with
  | nil => exact .inl rfl
  | cons k ks => exact .inr (.inr ⟨_, rfl⟩)
theorem startsA (ks : List (List UInt8)) (f : List UInt8 → List Int) {R : List (List UInt8)} (h : Starts R) : Starts (ks.flatMap (tokL f) ++ R) := by
  cases ks with
  | nil => exact h
  | cons k ks => exact .inr (.inl ⟨_, rfl⟩)
theorem B_inj {g g' : List UInt8 → Int} : ∀ {ks ks' : List (List UInt8)}, ks.flatMap (tokR g) = ks'.flatMap (tokR g') → ks = ks' ∧ ∀ k ∈ ks, g k = g' k
  | [], [], _ => ⟨rfl, fun k hk => (List.not_mem_nil hk).elim⟩
  | [], k :: ks', h => by simp [tokR] at h
  | k :: ks, [], h => by simp [tokR] at h
  | k :: ks, k' :: ks', h => by
    simp only [List.flatMap_cons, tokR, List.cons_append, List.nil_append, List.cons.injEq, true_and] at h
    obtain ⟨e1, e2, e3⟩ := h
    obtain ⟨e4, e5⟩ := B_inj e3
    subst e1
    refine ⟨by rw [e4], fun x hx => ?_⟩
    rcases List.mem_cons.1 hx with e | e
    · subst e; exact itoa_inj e2
    · exact e5 x e
theorem text_inj {f f' : List UInt8 → List Int} {g g' : List UInt8 → Int} {k2 k2' : List (List UInt8)} : ∀ {ks ks' : List (List UInt8)}, textT ks f k2 g = textT ks' f' k2' g' → (ks = ks' ∧ ∀ k ∈ ks, f k = f' k) ∧ k2 = k2' ∧ ∀ k ∈ k2, g k = g' k
  | [], [], h => ⟨⟨rfl, fun k hk => (List.not_mem_nil hk).elim⟩, B_inj h⟩
  | [], k :: ks', h => by
    exfalso
    have h2 : k2.flatMap (tokR g) = listS :: (k :: (f' k).map Lib.itoa ++ ks'.flatMap (tokL f') ++ k2'.flatMap (tokR g')) := by simpa [textT, tokL] using h
    cases k2 with
    | nil => cases h2
    | cons a r => exact absurd (List.cons.inj h2).1 (by decide)
  | k :: ks, [], h => by
    exfalso
    have h2 : k2'.flatMap (tokR g') = listS :: (k :: (f k).map Lib.itoa ++ ks.flatMap (tokL f) ++ k2.flatMap (tokR g)) := by simpa [textT, tokL] using h.symm
    cases k2' with
    | nil => cases h2
    | cons a r => exact absurd (List.cons.inj h2).1 (by decide)
  | k :: ks, k' :: ks', h => by
    have h2 : k :: ((f k).map Lib.itoa ++ textT ks f k2 g) = k' :: ((f' k').map Lib.itoa ++ textT ks' f' k2' g') := by
      have : listS :: k :: ((f k).map Lib.itoa ++ textT ks f k2 g) = listS :: k' :: ((f' k').map Lib.itoa ++ textT ks' f' k2' g') := by simpa [textT, tokL] using h
      exact (List.cons.inj this).2
    obtain ⟨e1, e2⟩ := List.cons.inj h2
    subst e1
    obtain ⟨e3, e4⟩ := cut_ints (startsA ks f (startsB k2 g)) (startsA ks' f' (startsB k2' g')) e2
    obtain ⟨⟨e5, e6⟩, e7⟩ := text_inj e4
    refine ⟨⟨by rw [e5], fun x hx => ?_⟩, e7⟩
    rcases List.mem_cons.1 hx with e | e
    · subst e; exact e3
    · exact e6 x e
def sortK (ks : List (List UInt8)) : List (List UInt8) := ks.mergeSort leB
theorem sortK_perm (ks : List (List UInt8)) : (sortK ks).Perm ks := List.mergeSort_perm _ _
theorem sortK_of {a b : List (List UInt8)} (h : a.Perm b) : sortK a = sortK b := mergeSort_of_perm h
/-! ### the text of a state -/
def byL (k : ByteArray) : List UInt8 := k.data.toList
def ba (k : List UInt8) : ByteArray := ⟨k.toArray⟩
theorem ba_byL (k : ByteArray) : ba (byL k) = k := rfl
theorem byL_ba (k : List UInt8) : byL (ba k) = k := rfl
/-- The keys that a map has, each once. -/
def Keys {β : Type} (f : ByteArray → Option β) (ks : List (List UInt8)) : Prop := ks.Nodup ∧ ∀ k, k ∈ ks ↔ (f (ba k)).isSome = true
theorem Keys.perm {β : Type} {f : ByteArray → Option β} {a b : List (List UInt8)} (ha : Keys f a) (hb : Keys f b) : a.Perm b :=
  (List.perm_ext_iff_of_nodup ha.1 hb.1).2 fun k => (ha.2 k).trans (hb.2 k).symm
def fin {β : Type} (f : ByteArray → Option β) : Prop := ∃ ks, Keys f ks
noncomputable def keysOf {β : Type} (f : ByteArray → Option β) : List (List UInt8) := open Classical in if h : fin f then sortK h.choose else []
theorem keysOf_eq {β : Type} {f : ByteArray → Option β} {ks : List (List UInt8)} (h : Keys f ks) : keysOf f = sortK ks := by
  have hf : fin f := ⟨ks, h⟩
  unfold keysOf
  rw [dif_pos hf]
  exact sortK_of (hf.choose_spec.perm h)
noncomputable def textS (f : ByteArray → Option (List Int)) (g : ByteArray → Option Int) : List UInt8 :=
  toks (textT (keysOf f) (fun k => (f (ba k)).getD []) (keysOf g) (fun k => (g (ba k)).getD 0))
theorem textS_inj {f f' : ByteArray → Option (List Int)} {g g' : ByteArray → Option Int} (hf : fin f) (hf' : fin f') (hg : fin g) (hg' : fin g') (h : textS f g = textS f' g') : f = f' ∧ g = g' := by
  obtain ⟨⟨e1, e2⟩, e3, e4⟩ := text_inj (toks_inj h)
  have gen : ∀ {β : Type} (a b : ByteArray → Option β) (z : β), fin a → fin b → keysOf a = keysOf b → (∀ k ∈ keysOf a, (a (ba k)).getD z = (b (ba k)).getD z) → a = b := by
    intro β a b z ⟨ks, ha⟩ ⟨ks', hb⟩ e h
    have ea := keysOf_eq ha
    have eb := keysOf_eq hb
    have ma : ∀ k, k ∈ keysOf a ↔ (a (ba k)).isSome = true := fun k => by rw [ea, (sortK_perm ks).mem_iff]; exact ha.2 k
    have mb : ∀ k, k ∈ keysOf a ↔ (b (ba k)).isSome = true := fun k => by rw [e, eb, (sortK_perm ks').mem_iff]; exact hb.2 k
    funext k
    have h1 := ma (byL k)
    have h2 := mb (byL k)
    have h3 := h (byL k)
    rw [ba_byL] at h1 h2 h3
    cases hx : a k with
    | none =>
      rw [hx] at h1
      cases hy : b k with
      | none => rfl
      | some y => rw [hy] at h2; exact absurd (h1.1 (h2.2 rfl)) (by simp)
    | some x =>
      rw [hx] at h1
      have hm := h1.2 rfl
      cases hy : b k with
      | none => rw [hy] at h2; exact absurd (h2.1 hm) (by simp)
      | some y => rw [hx, hy] at h3; simpa using h3 hm
  exact ⟨gen f f' [] hf hf' e1 e2, gen g g' 0 hg hg' e3 e4⟩
theorem fin_nil {β : Type} : fin (fnil : ByteArray → Option β) := ⟨[], by simp, fun k => by simp [fnil]⟩
theorem fin_set {β : Type} {f : ByteArray → Option β} (h : fin f) (k : ByteArray) (v : β) : fin (fset f k v) := by
  obtain ⟨ks, h1, h2⟩ := h
  have hk : ∀ x, ba x = k ↔ x = byL k := fun x => ⟨fun e => by rw [← e, byL_ba], fun e => by rw [e, ba_byL]⟩
  by_cases hm : byL k ∈ ks
  · refine ⟨ks, h1, fun x => ?_⟩
    unfold fset
    by_cases e : ba x = k
    · rw [if_pos e, (hk x).1 e]; simp [hm]
    · rw [if_neg e]; exact h2 x
  · refine ⟨byL k :: ks, List.nodup_cons.2 ⟨hm, h1⟩, fun x => ?_⟩
    unfold fset
    by_cases e : ba x = k
    · rw [if_pos e, (hk x).1 e]; simp
    · have : x ≠ byL k := fun e2 => e ((hk x).2 e2)
      rw [if_neg e, List.mem_cons]; simp only [this, false_or]; exact h2 x
end Go.Proofs.YtemdmpgekegfhaaDoor
end

section
namespace Go.Proofs.YtemdmpgekegfhaaDoor
open Go.RowKit
set_option linter.all false
set_option maxRecDepth 10000

def Rt : Value → Option (DataW Unit × List MemPlace) := fun _ => some (.lit (.bool true), [])
theorem keyOf_strV {k : List UInt8} (h : k.length ≤ maxLen) : keyOf Tryd.prog 9 (strV k) = some (.string k) := by
  have h2 : (⟨k.toArray⟩ : ByteArray).size ≤ maxLen := by simpa [ByteArray.size] using h
  unfold keyOf strV
  rw [Tryd.underlying9]
  simp only [mapKey, Tryd.underlying9]
  exact if_pos h2
theorem own_of {w : World} {r : Nat} {es : Array MapEntry} {c : Nat} (hm : w.heap[r]? = some (.map es c)) {ks : List (List UInt8)} (hk : es.toList.map (·.key) = ks.map strV) (hwf : wfE es c) (hnd : ks.Nodup) (hl : ∀ k ∈ ks, k.length ≤ maxLen) (hsz : es.size ≤ maxLen) :
    ∃ D, w.ownsMap Tryd.prog 9 Rt r es.size D ∧ (strKeys D).Perm ks ∧ Maps.size D = es.size := by
  have hrd : ∀ x ∈ es.toList, ∃ k, k ∈ ks ∧ x.key = strV k ∧ WideElems.rd Tryd.prog 9 Rt x = some (.string k, .lit (.bool true)) := fun x hx => by
    have : x.key ∈ ks.map strV := by rw [← hk]; exact List.mem_map.2 ⟨x, hx, rfl⟩
    obtain ⟨k, hk2, e⟩ := List.mem_map.1 this
    refine ⟨k, hk2, e.symm, ?_⟩
    unfold WideElems.rd
    rw [← e, keyOf_strV (hl k hk2)]; rfl
  have hF : WideElems.Fit Tryd.prog 9 Rt es c := ⟨hsz, ⟨hwf.2, hwf.1, by
    rw [hk]; unfold List.Nodup; rw [List.pairwise_map]
    exact hnd.imp fun {a b} h e => h (by unfold strV at e; have := congrArg ByteArray.data (Value.string.inj e); simpa using this)⟩, fun x hx => let ⟨k, _, _, h⟩ := hrd x hx; ⟨_, h⟩⟩
  have hks : ((es.toList.map (WideElems.rg Tryd.prog 9 Rt)).map fun p => strOf p.1) = ks := by
    rw [List.map_map]
    have e1 : es.toList.map ((fun p : Lit × DataW Unit => strOf p.1) ∘ WideElems.rg Tryd.prog 9 Rt) = es.toList.map fun x => strOf ((keyOf Tryd.prog 9 x.key).getD (.bool false)) := by
      apply List.map_congr_left
      intro x hx
      obtain ⟨k, hk2, e, h⟩ := hrd x hx
      simp only [Function.comp]
      rw [WideElems.rg_of h, e, keyOf_strV (hl k hk2)]; rfl
    rw [e1]
    have e2 : es.toList.map (fun x => strOf ((keyOf Tryd.prog 9 x.key).getD (.bool false))) = (es.toList.map (·.key)).map fun v => strOf ((keyOf Tryd.prog 9 v).getD (.bool false)) := by rw [List.map_map]; rfl
    rw [e2, hk, List.map_map]
    have e3 : ks.map ((fun v => strOf ((keyOf Tryd.prog 9 v).getD (.bool false))) ∘ strV) = ks.map id := by
      apply List.map_congr_left
      intro k hk2
      simp only [Function.comp]
      rw [keyOf_strV (hl k hk2)]; rfl
    rw [e3, List.map_id]
  have hp := WideShapes.sorted_perm (es.toList.map (WideElems.rg Tryd.prog 9 Rt))
  refine ⟨_, ⟨es, c, hm, hF, Nat.le_refl _, rfl⟩, ?_, ?_⟩
  · show (((es.toList.map (WideElems.rg Tryd.prog 9 Rt)).foldr DataW.insert []).map fun p => strOf p.1).Perm ks
    have := hp.map fun p => strOf p.1
    rw [hks] at this
    exact this
  · show ((es.toList.map (WideElems.rg Tryd.prog 9 Rt)).foldr DataW.insert []).length = es.size
    rw [hp.length_eq]; simp
theorem keysL_c (w : World) (r : Option Nat) : Calls Tryd.prog 87 #[.map r] w fun e w' => e = .returned (.func (.func 133) #[] #[.pointer (some ⟨w.heap.size, 0, none⟩)]) ∧ w' = w.alloc (.cells #[.map r] 88) :=
  callsIn_wide.1 (Tryd.maps_Keys_87 r w)
theorem keysR_c (w : World) (r : Option Nat) : Calls Tryd.prog 88 #[.map r] w fun e w' => e = .returned (.func (.func 134) #[] #[.pointer (some ⟨w.heap.size, 0, none⟩)]) ∧ w' = w.alloc (.cells #[.map r] 89) :=
  callsIn_wide.1 (Tryd.maps_Keys_88 r w)
/-- What slices.Sorted hands back: a row of its own that holds the keys, sorted. -/
def rowOf (w' : World) (B : Nat) (v : Value) (ks : List (List UInt8)) : Prop := ∃ A cap, v = .slice A ks.length cap ∧ (ks ≠ [] → ∃ g cur, A = some ⟨g, 0, none⟩ ∧ B ≤ g ∧ w'.heap[g]? = some (.cells cur 9 (0, 0)) ∧ ∀ (j : Nat) (h : j < ks.length), cur[j]? = some (strV ks[j]))
theorem rowOf_of {w' : World} {B : Nat} {v : Value} {ss ks : List (List UInt8)} (hp : ss.Perm ks) (h : w'.ownsRow B 9 1 v ss.length ((ss.mergeSort (fun x y => decide (x ≤ y))).map encStr)) : rowOf w' B v (sortK ks) := by
  have e : ss.mergeSort (fun x y => decide (x ≤ y)) = sortK ks := mergeSort_of_perm hp
  have hl : ss.length = (sortK ks).length := by rw [← e, List.length_mergeSort]
  rw [e, hl] at h
  obtain ⟨h1, h2⟩ := h
  rcases h2 with ⟨rfl, h0⟩ | ⟨g, cap, cur, rfl, hg, hh, hc, -, -, ht⟩
  · refine ⟨none, 0, by rw [h0], fun hne => (hne (List.eq_nil_of_length_eq_zero h0)).elim⟩
  · refine ⟨_, cap, rfl, fun hne => ⟨g, cur, rfl, hg, hh, fun j hj => ?_⟩⟩
    have : (cur.toList.take ((sortK ks).length * 1))[j]? = ((sortK ks).map encStr)[j]? := by rw [ht]
    rw [List.getElem?_take, if_pos (by omega), List.getElem?_map, List.getElem?_eq_getElem hj, Array.getElem?_toList] at this
    rw [this]; rfl
theorem sortedL_c {w : World} {r : Nat} {es : Array MapEntry} {c : Nat} (hm : w.heap[r]? = some (.map es c)) {ks : List (List UInt8)} (hk : es.toList.map (·.key) = ks.map strV) (hwf : wfE es c) (hnd : ks.Nodup) (hl : ∀ k ∈ ks, k.length ≤ maxLen) (hsz : es.size * 16 ≤ 140737488355328) :
    Calls Tryd.prog 86 #[.func (.func 133) #[] #[.pointer (some ⟨w.heap.size, 0, none⟩)]] (w.alloc (.cells #[.map (some r)] 88)) fun e w' => ∃ v, e = .returned v ∧
      rowOf w' (w.heap.size + 1) v (sortK ks) ∧ Below (w.heap.size + 1) (w.alloc (.cells #[.map (some r)] 88)) w' := by
  obtain ⟨D, hown, hp, hsD⟩ := own_of hm hk hwf hnd hl (by unfold maxLen; omega)
  refine (callsIn_wide.1 (Tryd.slices_Sorted_keys_86_87 r es.size D Rt w hown (by rw [hsD]; unfold maxLen; omega) (by rw [hsD]; omega))).mono ?_
  rintro e w' ⟨v, ss, rfl, hS, hrow, -, hb⟩
  rw [show (w.alloc (.cells #[.map (some r)] 88)).heap.size = w.heap.size + 1 by simp] at hrow hb
  exact ⟨v, rfl, rowOf_of (hS.trans hp) hrow, hb⟩
theorem sortedR_c {w : World} {r : Nat} {es : Array MapEntry} {c : Nat} (hm : w.heap[r]? = some (.map es c)) {ks : List (List UInt8)} (hk : es.toList.map (·.key) = ks.map strV) (hwf : wfE es c) (hnd : ks.Nodup) (hl : ∀ k ∈ ks, k.length ≤ maxLen) (hsz : es.size * 16 ≤ 140737488355328) :
    Calls Tryd.prog 86 #[.func (.func 134) #[] #[.pointer (some ⟨w.heap.size, 0, none⟩)]] (w.alloc (.cells #[.map (some r)] 89)) fun e w' => ∃ v, e = .returned v ∧
      rowOf w' (w.heap.size + 1) v (sortK ks) ∧ Below (w.heap.size + 1) (w.alloc (.cells #[.map (some r)] 89)) w' := by
  obtain ⟨D, hown, hp, hsD⟩ := own_of hm hk hwf hnd hl (by unfold maxLen; omega)
  refine (callsIn_wide.1 (Tryd.slices_Sorted_keys_86_88 r es.size D Rt w hown (by rw [hsD]; unfold maxLen; omega) (by rw [hsD]; omega))).mono ?_
  rintro e w' ⟨v, ss, rfl, hS, hrow, -, hb⟩
  rw [show (w.alloc (.cells #[.map (some r)] 89)).heap.size = w.heap.size + 1 by simp] at hrow hb
  exact ⟨v, rfl, rowOf_of (hS.trans hp) hrow, hb⟩
theorem sortedL_x {w W : World} {n r : Nat} (hn : n = w.heap.size) (hW : W = w.alloc (.cells #[.map (some r)] 88)) {es : Array MapEntry} {c : Nat} (hm : w.heap[r]? = some (.map es c)) {ks : List (List UInt8)} (hk : es.toList.map (·.key) = ks.map strV) (hwf : wfE es c) (hnd : ks.Nodup) (hl : ∀ k ∈ ks, k.length ≤ maxLen) (hsz : es.size * 16 ≤ 140737488355328) :
    Calls Tryd.prog 86 #[.func (.func 133) #[] #[.pointer (some ⟨n, 0, none⟩)]] W fun e w' => ∃ v, e = .returned v ∧ rowOf w' (w.heap.size + 1) v (sortK ks) ∧ Below (w.heap.size + 1) W w' := by
  subst hn; subst hW
  exact sortedL_c hm hk hwf hnd hl hsz
theorem sortedR_x {w W : World} {n r : Nat} (hn : n = w.heap.size) (hW : W = w.alloc (.cells #[.map (some r)] 89)) {es : Array MapEntry} {c : Nat} (hm : w.heap[r]? = some (.map es c)) {ks : List (List UInt8)} (hk : es.toList.map (·.key) = ks.map strV) (hwf : wfE es c) (hnd : ks.Nodup) (hl : ∀ k ∈ ks, k.length ≤ maxLen) (hsz : es.size * 16 ≤ 140737488355328) :
    Calls Tryd.prog 86 #[.func (.func 134) #[] #[.pointer (some ⟨n, 0, none⟩)]] W fun e w' => ∃ v, e = .returned v ∧ rowOf w' (w.heap.size + 1) v (sortK ks) ∧ Below (w.heap.size + 1) W w' := by
  subst hn; subst hW
  exact sortedR_c hm hk hwf hnd hl hsz
end Go.Proofs.YtemdmpgekegfhaaDoor
end

section
namespace Go.Proofs.YtemdmpgekegfhaaDoor
open Go.RowKit
set_option linter.all false
set_option maxRecDepth 10000

theorem toks_app (a b : List (List UInt8)) : toks (a ++ b) = toks a ++ toks b := by unfold toks; rw [List.flatMap_append]
theorem toks_pre {a b : List (List UInt8)} (h : a <+: b) : (toks a).length ≤ (toks b).length := by
  obtain ⟨c, rfl⟩ := h
  rw [toks_app, List.length_append]; omega
theorem fm_step {α β : Type} {F : α → List β} {l : List α} {t : Nat} (h : t < l.length) : (l.take (t + 1)).flatMap F = (l.take t).flatMap F ++ F l[t] := by
  rw [List.take_succ_eq_append_getElem h, List.flatMap_append]; simp
theorem fm_pre {α β : Type} (F : α → List β) (l : List α) (t : Nat) : (l.take t).flatMap F <+: l.flatMap F :=
  ⟨(l.drop t).flatMap F, by rw [← List.flatMap_append, List.take_append_drop]⟩
theorem rowOf.kept {w w' : World} {B b : Nat} {v : Value} {ks : List (List UInt8)} (h : rowOf w B v ks) (hb : b < B) (hk : Lib.OthersKept 5 (some b) w w') : rowOf w' B v ks := by
  obtain ⟨A, cap, rfl, h2⟩ := h
  refine ⟨A, cap, rfl, fun hne => ?_⟩
  obtain ⟨g, cur, rfl, h3, h4, h5⟩ := h2 hne
  exact ⟨g, cur, rfl, h3, hk g _ h4 (fun e => by have := Option.some.inj e; omega) (fun c fz e => by cases e), h5⟩
theorem rowOf.cell {w : World} {B : Nat} {A : Option Addr} {n cap : Nat} {ks : List (List UInt8)} (h : rowOf w B (.slice A n cap) ks) {t : Nat} (ht : t < ks.length) : ∃ g, A = some ⟨g, 0, none⟩ ∧ w.cell? ⟨g, t, none⟩ = some (strV ks[t]) := by
  obtain ⟨A', cap', e, h2⟩ := h
  cases e
  obtain ⟨g, cur, rfl, -, h4, h5⟩ := h2 (fun e => by rw [e] at ht; cases ht)
  exact ⟨g, rfl, by rw [Lib.cell_of_heap h4]; exact h5 t ht⟩
/-- A state as it lies in memory: its two maps, their keys, what the keys have. -/
structure TxS (w : World) (p o r1 r2 : Nat) (ks1 : List (List UInt8)) (f : List UInt8 → List Int) (ks2 : List (List UInt8)) (g : List UInt8 → Int) : Prop where
  p0 : w.cell? ⟨p, o, none⟩ = some (.map (some r1))
  p1 : w.cell? ⟨p, o + 1, none⟩ = some (.map (some r2))
  m1 : ∃ es c, w.heap[r1]? = some (.map es c) ∧ es.toList.map (·.key) = ks1.map strV ∧ wfE es c ∧ es.size * 16 ≤ 140737488355328
  m2 : ∃ es c, w.heap[r2]? = some (.map es c) ∧ es.toList.map (·.key) = ks2.map strV ∧ wfE es c ∧ es.size * 16 ≤ 140737488355328
  nd1 : ks1.Nodup
  nd2 : ks2.Nodup
  kl1 : ∀ k ∈ ks1, k.length ≤ maxLen
  kl2 : ∀ k ∈ ks2, k.length ≤ maxLen
  lk1 : ∀ k ∈ ks1, ∃ A cap, (∀ w' : World, w'.heap[r1]? = w.heap[r1]? → (Instr.lookup 88 (.map (some r1)) (strV k) false).run Tryd.prog w' = .ok (.slice A (f k).length cap) w') ∧
    ∀ (j : Nat) (h : j < (f k).length), ∃ b off, A = some ⟨b, off, none⟩ ∧ b < w.heap.size ∧ w.cell? ⟨b, off + j, none⟩ = some (.int .i64 (f k)[j]) ∧ Kin.inI64 (f k)[j]
  lk2 : ∀ k ∈ ks2, (∀ w' : World, w'.heap[r2]? = w.heap[r2]? → (Instr.lookup 89 (.map (some r2)) (strV k) false).run Tryd.prog w' = .ok (.int .i64 (g k)) w') ∧ Kin.inI64 (g k)
theorem cell_lt {w : World} {a : Addr} {v : Value} (h : w.cell? a = some v) : a.block < w.heap.size := by
  simp only [World.cell?] at h
  cases hb : w.heap[a.block]? with
  | none => simp [hb] at h
  | some o => exact (Array.getElem?_eq_some_iff.1 hb).1
theorem heap_lt {w : World} {r : Nat} {o : Obj} (h : w.heap[r]? = some o) : r < w.heap.size := (Array.getElem?_eq_some_iff.1 h).1
theorem alloc_at (w : World) (cs : Array Value) (T : TypeId) : (w.alloc (.cells cs T)).heap[w.heap.size]? = some (.cells cs T (0, 0)) := by show (w.heap.push _)[w.heap.size]? = _; simp
theorem none_s {w : World} {p o r : Nat} (h : w.cell? ⟨p, o, none⟩ = some (.map (some r))) : Calls Tryd.prog 81 #[.pointer (some ⟨p, o, none⟩)] w fun e w' => e = .returned (.bool false) ∧ w' = w := by
  have hp : (binOp .eql 78 (.pointer (some ⟨p, o, none⟩)) (.pointer none)).run Tryd.prog w = .ok (.bool false) w := r_pnil Tryd.underlying78
  have hm : (binOp .eql 88 (.map (some r)) (.map none)).run Tryd.prog w = .ok (.bool false) w := r_mnil Tryd.underlying88
  go_enter Tryd.func81, Tryd.ntmps81
  go_wp2
  go_ret
  exact ⟨rfl, rfl⟩
theorem Below.size_le {B : Nat} {w w' : World} (h : Below B w w') : w.heap.size ≤ w'.heap.size := h.size
theorem fm_ge {α β : Type} (F : α → List β) (h : ∀ x, 1 ≤ (F x).length) : ∀ l : List α, l.length ≤ (l.flatMap F).length
  | [] => Nat.zero_le _
  | x :: r => by
    have := fm_ge F h r
    have := h x
    rw [List.flatMap_cons, List.length_append, List.length_cons]; omega
/-- What the builder of a call holds, beside what lay there. -/
def Tst (w wr : World) (acc : List UInt8) : Prop := Lib.IsBuilderF 147 5 w.heap.size w.heap.size (Lib.byteCells acc) wr ∧ Below w.heap.size w wr
theorem Tst.size {w wr : World} {acc : List UInt8} (h : Tst w wr acc) : w.heap.size < wr.heap.size := by
  rcases h.1 with h | h <;> exact h.lt
theorem Tst.below {w wr w' : World} {acc : List UInt8} (h : Tst w wr acc) (hb : Below wr.heap.size wr w') : Tst w w' acc := ⟨bIs_below h.1 hb, h.2.trans (hb.mono (by have := h.size; omega))⟩
theorem puts_c {w wr : World} {acc : List UInt8} (xs : List (List UInt8)) (hT : Tst w wr acc) (htab : pow10On w.heap.size w) (hlen : acc.length + (toks xs).length ≤ 140737488355328) :
    Calls Tryd.prog 82 #[.slice (some ⟨wr.heap.size, 0, none⟩) xs.length xs.length, .pointer (some ⟨w.heap.size, 0, none⟩)] (wr.alloc (.cells (xs.map strV).toArray 9)) fun e w' => e = .returned (.tuple #[]) ∧
      (Tst w w' (acc ++ toks xs) ∧ Lib.OthersKept 5 (some w.heap.size) wr w') := by
  have hs := hT.size
  have hb : Below wr.heap.size wr (wr.alloc (.cells (xs.map strV).toArray 9)) := (Below.refl _ _).alloc (Nat.le_refl _) _
  have h1 := hT.below hb
  refine (put_c (blk := wr.heap.size) h1.1 (by simp; omega) (alloc_at _ _ _) (by omega) (htab.on h1.2) hlen).mono ?_
  rintro e w' ⟨rfl, h2, h3, h4⟩
  exact ⟨rfl, ⟨h2, h1.2.trans h3⟩, (kept_below hb).trans h4⟩
theorem pre_len {T X : List (List UInt8)} {n : Nat} (h : X <+: T) (hn : (toks T).length ≤ n) : (toks X).length ≤ n := Nat.le_trans (toks_pre h) hn
theorem Tst.cell {w wr : World} {acc : List UInt8} (h : Tst w wr acc) {q : Addr} {v : Value} (hq : w.cell? q = some v) : wr.cell? q = some v := (Below.cell h.2 (cell_lt hq)).trans hq
theorem toks_one (x : List UInt8) : toks [x] = tok x := by simp [toks]
set_option maxHeartbeats 4000000 in
theorem text_c {w : World} {p o r1 r2 : Nat} {ks1 : List (List UInt8)} {f : List UInt8 → List Int} {ks2 : List (List UInt8)} {g : List UInt8 → Int} (S : TxS w p o r1 r2 ks1 f ks2 g) (htab : pow10At w)
    (hlen : (toks (textT (sortK ks1) f (sortK ks2) g)).length ≤ 140737488355328) :
    Calls Tryd.prog 39 #[.pointer (some ⟨p, o, none⟩)] w fun e w' => e = .returned (strV (toks (textT (sortK ks1) f (sortK ks2) g))) ∧ Below w.heap.size w w' := by
  have HS := Lib.hid S
  have HL := Lib.hid hlen
  have HT := Lib.hid (Lib.tabBelow_of_tabIs htab)
  have hp : p < w.heap.size := cell_lt S.p0
  obtain ⟨es1, cc1, hm1, hk1, hwf1, hs1⟩ := S.m1
  obtain ⟨es2, cc2, hm2, hk2, hwf2, hs2⟩ := S.m2
  have hr1 := heap_lt hm1
  have hr2 := heap_lt hm2
  have HM1 := Lib.hid hm1
  have HM2 := Lib.hid hm2
  have HK1 := Lib.hid hk1
  have HK2 := Lib.hid hk2
  have HW1 := Lib.hid hwf1
  have HW2 := Lib.hid hwf2
  have c0 := S.p0
  have cA : (w.alloc (.cells #[.pointer none, .slice none 0 0] 147)).cell? ⟨p, o, none⟩ = some (.map (some r1)) := by
    rw [Below.cell ((Below.refl w.heap.size w).alloc (Nat.le_refl _) _) (p := ⟨p, o, none⟩) hp]; exact c0
  clear hm1 hm2 hk1 hk2 hwf1 hwf2 S hlen htab
  have H16 := Lib.hid hs1
  have H26 := Lib.hid hs2
  clear hs1 hs2
  have hn1 : (sortK ks1).length ≤ 140737488355328 := by
    have h1 := fm_ge (tokL f) (fun x => by simp [tokL]) (sortK ks1)
    have h2 := toks_ge (textT (sortK ks1) f (sortK ks2) g)
    have h3 := HL.out
    unfold textT at h2 h3
    rw [List.length_append] at h2
    omega
  have hn2 : (sortK ks2).length ≤ 140737488355328 := by
    have h1 := fm_ge (tokR g) (fun x => by simp [tokR]) (sortK ks2)
    have h2 := toks_ge (textT (sortK ks1) f (sortK ks2) g)
    have h3 := HL.out
    unfold textT at h2 h3
    rw [List.length_append] at h2
    omega
  have HP := Lib.hid hp
  have HR1 := Lib.hid hr1
  have HR2 := Lib.hid hr2
  go_enter Tryd.func39, Tryd.ntmps39
  go_wp2_with (first
    | (go_at_call 81; refine (none_s c0).mono ?_; rintro e w' ⟨rfl, hw⟩; obtain rfl := hw.symm)
    | (go_at_call 87; refine (keysL_c _ _).mono ?_; rintro e w' ⟨rfl, rfl⟩)
    | (go_at_call 86; refine (sortedL_x (w := w.alloc (.cells #[.pointer none, .slice none 0 0] 147)) (r := r1) (es := es1) (c := cc1) (by simp) rfl ((Below.heap_alloc _ _ _ HR1.out).trans HM1.out) HK1.out HW1.out HS.out.nd1 HS.out.kl1 H16.out).mono ?_; rintro e w3 ⟨v1, rfl, hR, hB3⟩
       obtain ⟨A1, cap1, rfl, -⟩ := id hR
       have hT0 : Tst w w3 [] := by
         have h1 : Tst w (w.alloc (.cells #[.pointer none, .slice none 0 0] 147)) [] := ⟨Lib.IsBuilderF.of (Lib.fresh_isBuilder _ _ w), (Below.refl _ _).alloc (Nat.le_refl _) _⟩
         exact h1.below (((Below.refl _ _).alloc (Nat.le_refl _) _).trans (hB3.mono (by simp)))
       have HR := Lib.hid hR
       have HT0 := Lib.hid hT0
       clear hR hB3 hT0 cA))
  go_loopw [21] (fun i wr => ∃ t : Nat, t ≤ (sortK ks1).length ∧ i = .int .i64 t ∧ Tst w wr (toks (((sortK ks1).take t).flatMap (tokL f))) ∧ rowOf wr (w.heap.size + 2) (.slice A1 (sortK ks1).length cap1) (sortK ks1)) (fun i _ => (sortK ks1).length - (intOf i).toNat)
  case atStart => exact ⟨0, Nat.zero_le _, rfl, by simpa [toks] using HT0.out, by simpa using HR.out⟩
  case round =>
    clear HR HT0
    obtain ⟨t, ht, rfl, hT, hR⟩ := hrel
    by_cases hlt : t < (sortK ks1).length
    · obtain ⟨g1, rfl, cK⟩ := hR.cell hlt
      have hkm : (sortK ks1)[t] ∈ ks1 := (sortK_perm ks1).mem_iff.1 (List.getElem_mem hlt)
      have hst := fm_step (F := tokL f) hlt
      have hpr := (fm_pre (tokL f) (sortK ks1) (t + 1)).trans (List.prefix_append _ ((sortK ks2).flatMap (tokR g)))
      rw [hst] at hpr
      generalize (sortK ks1)[t] = k at cK hkm hst hpr
      generalize ((sortK ks1).take t).flatMap (tokL f) = P at hT hst hpr
      have HST := Lib.hid hst
      unfold strV at cK
      have HPR := Lib.hid (show P ++ tokL f k <+: textT (sortK ks1) f (sortK ks2) g from hpr)
      clear hst hpr
      have hnf : (f k).length ≤ 140737488355328 := by
        have h1 := pre_len HPR.out HL.out
        have h2 := toks_ge (P ++ tokL f k)
        rw [List.length_append] at h2
        simp only [tokL, List.length_cons, List.length_map] at h1 h2
        omega
      obtain ⟨Af, capf, hlk, hel⟩ := HS.out.lk1 k hkm
      have HLK := Lib.hid hlk
      have HEL := Lib.hid hel
      have HRO := Lib.hid hR
      have HT1 := Lib.hid hT
      clear hlk hel hR hT
      go_wp2_with (first
        | (go_at_call 82
           refine (puts_c [listS, k] HT1.out HT.out (by
             have h1 : P ++ [listS, k] <+: P ++ tokL f k := by rw [List.prefix_append_right_inj]; exact ⟨(f k).map Lib.itoa, rfl⟩
             have := pre_len (h1.trans HPR.out) HL.out
             rw [toks_app, List.length_append] at this; exact this)).mono ?_
           rintro e w5 ⟨rfl, hT5, hk5⟩
           have c5 := hT5.cell c0
           have l5 := HLK.out w5 (hT5.2.block r1 HR1.out)
           unfold strV at l5
           have HT5 := Lib.hid hT5
           have HRO5 := Lib.hid (HRO.out.kept (by omega) hk5)
           clear hT5 hk5))
      go_loopw [36] (fun j w6 => ∃ u : Nat, u ≤ (f k).length ∧ j = .int .i64 u ∧ Tst w w6 (toks (P ++ listS :: k :: ((f k).take u).map Lib.itoa)) ∧ rowOf w6 (w.heap.size + 2) (.slice (some ⟨g1, 0, none⟩) (sortK ks1).length cap1) (sortK ks1)) (fun j _ => (f k).length - (intOf j).toNat)
      case atStart =>
        refine ⟨0, Nat.zero_le _, rfl, ?_, HRO5.out⟩
        have := HT5.out
        rw [← toks_app] at this; exact this
      case round =>
        clear HT5 HRO5 HT1 HRO c5 l5 cK
        obtain ⟨u, hu, rfl, hT6, hR6⟩ := hrel
        have HR6 := Lib.hid hR6
        have HT6 := Lib.hid hT6
        by_cases hlu : u < (f k).length
        · obtain ⟨bb, off, rfl, hbb, hce, hrg⟩ := HEL.out u hlu
          have ce := hT6.cell hce
          have hst2 : ((f k).take (u + 1)).map Lib.itoa = ((f k).take u).map Lib.itoa ++ [Lib.itoa (f k)[u]] := by rw [List.take_succ_eq_append_getElem hlu, List.map_append]; rfl
          have hpr2 : P ++ listS :: k :: (((f k).take u).map Lib.itoa ++ [Lib.itoa (f k)[u]]) <+: P ++ tokL f k := by
            rw [← hst2, List.prefix_append_right_inj]
            exact ⟨((f k).drop (u + 1)).map Lib.itoa, by show listS :: k :: (((f k).take (u + 1)).map Lib.itoa ++ ((f k).drop (u + 1)).map Lib.itoa) = _; rw [← List.map_append, List.take_append_drop]; rfl⟩
          generalize (f k)[u] = z at ce hrg hst2 hpr2 hce
          have HS2 := Lib.hid hst2
          have HP2 := Lib.hid hpr2
          have HRG := Lib.hid hrg
          have hl2 : (toks (P ++ listS :: k :: ((f k).take u).map Lib.itoa)).length + (toks [Lib.itoa z]).length ≤ 140737488355328 := by
            have := pre_len (hpr2.trans HPR.out) HL.out
            have e : P ++ listS :: k :: (((f k).take u).map Lib.itoa ++ [Lib.itoa z]) = (P ++ listS :: k :: ((f k).take u).map Lib.itoa) ++ [Lib.itoa z] := by simp only [List.append_assoc, List.cons_append]
            rw [e, toks_app, List.length_append] at this; exact this
          have HL2 := Lib.hid hl2
          clear hl2
          have HBB := Lib.hid hbb
          clear hst2 hpr2 hrg hbb hce hT6 hR6
          go_wp2_with (first
            | (go_at_call 84; refine (Tryd.strconv_Itoa z HRG.out.1 HRG.out.2 _ ((HT.out.on HT6.out.2).here)).mono ?_; rintro e w7 ⟨rfl, kk, os, e1⟩
               have b1 := Lib.hid (show Below wr.heap.size wr w7 by rw [e1]; exact Lib.below_grow _ wr (Nat.le_refl _) kk os)
               clear e1)
            | (go_at_call 82
               refine (puts_c [Lib.itoa z] (HT6.out.below b1.out) HT.out HL2.out).mono ?_
               rintro e w8 ⟨rfl, hT8, hk8⟩
               have HT8 := Lib.hid hT8
               have HR8 := Lib.hid ((HR6.out.kept (b := w.heap.size) (by omega) (kept_below b1.out)).kept (by omega) hk8)
               clear hT8 hk8))
          refine ⟨⟨u + 1, by omega, by go_num, ?_, HR8.out⟩, ?_⟩
          · rw [HS2.out, show P ++ listS :: k :: (((f k).take u).map Lib.itoa ++ [Lib.itoa z]) = (P ++ listS :: k :: ((f k).take u).map Lib.itoa) ++ [Lib.itoa z] by simp only [List.append_assoc, List.cons_append], toks_app]
            exact HT8.out
          · simp only [intOf]; omega
        · have hul : u = (f k).length := by omega
          rw [hul, List.take_length] at hT6
          clear HT6
          have HT6 := Lib.hid hT6
          subst hul
          clear hT6 hR6
          go_wp2
          refine ⟨⟨t + 1, by omega, by go_num, ?_, HR6.out⟩, ?_⟩
          · rw [HST.out]; exact HT6.out
          · simp only [intOf]; omega
    · have htl : t = (sortK ks1).length := by omega
      rw [htl, List.take_length] at hT
      subst htl
      have c1 := hT.cell HS.out.p1
      have HT1 := Lib.hid hT
      have hm2 : wr.heap[r2]? = some (.map es2 cc2) := (hT.2.block r2 HR2.out).trans HM2.out
      have HM3 := Lib.hid hm2
      clear hR hT hm2
      generalize hP1 : (sortK ks1).flatMap (tokL f) = P1 at HT1
      have HTT := Lib.hid (show textT (sortK ks1) f (sortK ks2) g = P1 ++ (sortK ks2).flatMap (tokR g) by rw [← hP1]; rfl)
      clear hP1 c0
      go_wp2_with (first
        | (go_at_call 88; refine (keysR_c _ _).mono ?_; rintro e w' ⟨rfl, rfl⟩)
        | (go_at_call 86
           refine (sortedR_x (w := wr) (r := r2) (es := es2) (c := cc2) rfl rfl HM3.out HK2.out HW2.out HS.out.nd2 HS.out.kl2 H26.out).mono ?_
           rintro e w3 ⟨v2, rfl, hR, hB3⟩
           obtain ⟨A2, cap2, rfl, -⟩ := id hR
           have hT0 := HT1.out.below (((Below.refl wr.heap.size wr).alloc (Nat.le_refl _) _).trans (hB3.mono (by omega)))
           have hBB := HT1.out.size
           have HR := Lib.hid (show ∃ B2, w.heap.size < B2 ∧ rowOf w3 B2 (.slice A2 (sortK ks2).length cap2) (sortK ks2) from ⟨_, by omega, hR⟩)
           have HT0 := Lib.hid hT0
           clear hR hB3 hT0 hBB c1))
      obtain ⟨B2, hB2, hR⟩ := HR.out
      clear HR
      have HR := Lib.hid hR
      have HB2 := Lib.hid hB2
      clear hR hB2
      go_loopw [54] (fun j w6 => ∃ u : Nat, u ≤ (sortK ks2).length ∧ j = .int .i64 u ∧ Tst w w6 (toks (P1 ++ ((sortK ks2).take u).flatMap (tokR g))) ∧ rowOf w6 B2 (.slice A2 (sortK ks2).length cap2) (sortK ks2)) (fun j _ => (sortK ks2).length - (intOf j).toNat)
      case atStart => exact ⟨0, Nat.zero_le _, rfl, by simpa using HT0.out, HR.out⟩
      case round =>
        clear HT0 HR HT1 HM3
        obtain ⟨u, hu, rfl, hT6, hR6⟩ := hrel
        by_cases hlu : u < (sortK ks2).length
        · obtain ⟨g2, rfl, cK⟩ := hR6.cell hlu
          have hkm : (sortK ks2)[u] ∈ ks2 := (sortK_perm ks2).mem_iff.1 (List.getElem_mem hlu)
          have hst := fm_step (F := tokR g) hlu
          have hpr := fm_pre (tokR g) (sortK ks2) (u + 1)
          rw [hst] at hpr
          generalize (sortK ks2)[u] = k at cK hkm hst hpr
          generalize ((sortK ks2).take u).flatMap (tokR g) = P at hT6 hst hpr
          have HST := Lib.hid hst
          have hl2 : (toks (P1 ++ P)).length + (toks [regS, k, Lib.itoa (g k)]).length ≤ 140737488355328 := by
            have h1 : P1 ++ (P ++ tokR g k) <+: textT (sortK ks1) f (sortK ks2) g := by rw [HTT.out, List.prefix_append_right_inj]; exact hpr
            have := pre_len h1 HL.out
            rw [← List.append_assoc, toks_app, List.length_append] at this
            exact this
          have HL2 := Lib.hid hl2
          unfold strV at cK
          obtain ⟨hlk, hrg⟩ := HS.out.lk2 k hkm
          have c1 := hT6.cell HS.out.p1
          have l5 := hlk wr (hT6.2.block r2 HR2.out)
          unfold strV at l5
          have HRG := Lib.hid hrg
          have HT6 := Lib.hid hT6
          have HR6 := Lib.hid hR6
          clear hst hpr hl2 hlk hrg hT6 hR6
          go_wp2_with (first
            | (go_at_call 84; refine (Tryd.strconv_Itoa (g k) HRG.out.1 HRG.out.2 _ ((HT.out.on HT6.out.2).here)).mono ?_; rintro e w7 ⟨rfl, kk, os, e1⟩
               have b1 := Lib.hid (show Below wr.heap.size wr w7 by rw [e1]; exact Lib.below_grow _ wr (Nat.le_refl _) kk os)
               clear e1)
            | (go_at_call 82
               refine (puts_c [regS, k, Lib.itoa (g k)] (HT6.out.below b1.out) HT.out HL2.out).mono ?_
               rintro e w8 ⟨rfl, hT8, hk8⟩
               have HT8 := Lib.hid hT8
               have HR8 := Lib.hid ((HR6.out.kept (b := w.heap.size) HB2.out (kept_below b1.out)).kept HB2.out hk8)
               clear hT8 hk8))
          refine ⟨⟨u + 1, by omega, by go_num, ?_, HR8.out⟩, ?_⟩
          · rw [HST.out, ← List.append_assoc, toks_app]
            exact HT8.out
          · simp only [intOf]; omega
        · have hul : u = (sortK ks2).length := by omega
          rw [hul, List.take_length] at hT6
          have HT6 := Lib.hid hT6
          subst hul
          clear hT6 hR6
          go_wp2_with (go_at_call 89; refine (Tryd.Builder_String_any_k w.heap.size w.heap.size _ _ HT6.out.1 (by have := HT6.out.2.size; omega)).mono ?_; rintro e w9 ⟨rfl, -, hB9, -⟩)
          go_ret
          exact ⟨by rw [HTT.out]; rfl, HT6.out.2.trans hB9⟩
end Go.Proofs.YtemdmpgekegfhaaDoor
end

section
namespace Go.Proofs.YtemdmpgekegfhaaDoor
open Go.RowKit
set_option linter.all false
set_option maxRecDepth 10000

section
variable {κ α β : Type} [DecidableEq κ] {K : KC κ} {d : Kin α} {V : VC β} {s : SH} {P : Program} {kt : TypeId}
theorem KO_getW (M : MK P kt K.enc K.ok) (t : TypeId) {et : TypeId} (ht : P.underlying t = some (.map kt et)) {r : Nat} {f : κ → Option (List α)} {k : κ} (hk : K.ok k) (hm : MapKO K d s r f) :
    ∃ A c, d.Sl s (.slice A ((f k).getD []).length c) ((f k).getD []) ∧ ∀ {w : World} {o : Obj}, s r = some o → w.heap[r]? = some o → (zeroValue et).run P w = .ok (.slice none 0 0) w → (Instr.lookup t (.map (some r)) (K.enc k) false).run P w = .ok (.slice A ((f k).getD []).length c) w := by
  obtain ⟨m, vs, ⟨hm, hu, hok, hl⟩, ⟨es, c, hr, he, hwf⟩, hsl⟩ := hm
  obtain ⟨lx, hlx⟩ := M.lit k hk
  rcases mgt_idx hu (k := k) with ⟨j, xs, hj, hg⟩ | ⟨hno, hg⟩
  · have hjl : j < vs.length := by rw [hl]; exact (List.getElem?_eq_some_iff.1 hj).1
    have hv : vs[j]? = some vs[j] := List.getElem?_eq_getElem hjl
    have hS := hsl j _ _ hj hv
    obtain ⟨A, cap, e1, h1, h2, h3⟩ := id hS
    rw [← hm, hg]
    have e2 : vs[j] = .slice A xs.length cap := e1
    refine ⟨A, cap, show d.Sl s (.slice A xs.length cap) xs from e2 ▸ hS, fun {w o} ho hw hz => ?_⟩
    have hb : w.heap[r]? = some (.map es c) := by rw [hw, ← ho, hr]
    have hmg : mget (kv m vs) k = some vs[j] := mget_mem (kv_uq hl hu) (List.mem_of_getElem? (kv_get hj hv))
    rw [show (some xs).getD [] = xs from rfl, ← e2]
    rcases mp_find M hk (kv_ok hl hok) he w with ⟨q1, q2⟩ | ⟨j', e', v', q1, q2, q3, q4, q5⟩
    · exact absurd rfl (q2 _ (List.mem_of_getElem? (kv_get hj hv)))
    · have : v' = vs[j] := by
        have := mget_mem (kv_uq hl hu) (List.mem_of_getElem? q5)
        rw [hmg] at this; exact (Option.some.inj this).symm
      subst this
      simp [Instr.lookup, run_underlying ht, MapKept.run_getObj_map hb, M.K.check w _ hlx, q1, Result.andThen]
  · rw [← hm, hg]
    refine ⟨none, 0, Kin.Sl.nil, fun {w o} ho hw hz => ?_⟩
    have hb : w.heap[r]? = some (.map es c) := by rw [hw, ← ho, hr]
    rcases mp_find M hk (kv_ok hl hok) he w with ⟨q1, q2⟩ | ⟨j', e', v', q1, q2, q3, q4, q5⟩
    · simp [Instr.lookup, run_underlying ht, MapKept.run_getObj_map hb, M.K.check w _ hlx, q1, hz, Result.andThen]
    · have : k ∈ (kv m vs).map (·.1) := List.mem_map.2 ⟨_, List.mem_of_getElem? q5, rfl⟩
      rw [kv_keys hl] at this
      obtain ⟨q, hq, e2⟩ := List.mem_map.1 this
      exact absurd e2 (hno q hq)
theorem KF_getW (M : MK P kt K.enc K.ok) (t : TypeId) {et : TypeId} (ht : P.underlying t = some (.map kt et)) {r : Nat} {f : κ → Option β} {k : κ} (hk : K.ok k) (hm : MapKF K V s r f) {z : β} {w : World} {o : Obj} (ho : s r = some o) (hw : w.heap[r]? = some o)
    (hz : (zeroValue et).run P w = .ok (V.enc z) w) : (Instr.lookup t (.map (some r)) (K.enc k) false).run P w = .ok (V.enc ((f k).getD z)) w := by
  obtain ⟨m, hf, ⟨hu, hok⟩, es, c, hr, he, hwf⟩ := hm
  have hb : w.heap[r]? = some (.map es c) := by rw [hw, ← ho, hr]
  obtain ⟨lx, hlx⟩ := M.lit k hk
  rw [← hf]
  have e1 : V.enc ((mgt m k).getD z) = (mget (em V m) k).getD (V.enc z) := by rw [em_get]; cases mgt m k <;> rfl
  rw [e1]
  rcases mp_find M hk (em_ok V fun p hp => (hok p hp).1) he w with ⟨h1, h2⟩ | ⟨j, e, v, h1, h2, h3, h4, h5⟩
  · simp [Instr.lookup, run_underlying ht, MapKept.run_getObj_map hb, M.K.check w _ hlx, h1, hz, Result.andThen, mget_none h2]
  · simp [Instr.lookup, run_underlying ht, MapKept.run_getObj_map hb, M.K.check w _ hlx, h1, Result.andThen, mget_mem (em_uq V hu) (List.mem_of_getElem? h5)]
end
theorem byL_len (k : ByteArray) : (byL k).length = k.size := by unfold byL; rw [Array.length_toList]; rfl
theorem strV_byL (k : ByteArray) : strV (byL k) = .string k := by unfold strV byL; rfl
theorem strV_ba (k : List UInt8) : strV k = .string (ba k) := rfl
theorem keys_of_m {β : Type} {f : ByteArray → Option β} {m : List (ByteArray × β)} (hm : ∀ k, mgt m k = f k) (hu : Uq m) : Keys f (m.map fun p => byL p.1) := by
  have byL_inj : ∀ a b, byL a = byL b → a = b := fun a b h => by rw [← ba_byL a, h, ba_byL]
  refine ⟨?_, fun k => ?_⟩
  · unfold List.Nodup; rw [List.pairwise_map]
    exact hu.imp fun {a b} h e => h (byL_inj _ _ e)
  · rw [← hm, List.mem_map]
    constructor
    · rintro ⟨p, hp, e⟩
      have : ba k = p.1 := by rw [← e, ba_byL]
      unfold mgt
      cases hf : m.find? (fun q => decide (q.1 = ba k)) with
      | some q => rfl
      | none => have := List.find?_eq_none.1 hf p hp; simp_all
    · intro h
      cases hg : mgt m (ba k) with
      | none => rw [hg] at h; cases h
      | some v => exact ⟨_, mgt_mem hg, byL_ba k⟩
/-- The table of powers of ten lies in memory that stays. -/
def Pw (s : SH) : Prop := ∃ o, s 2 = some o ∧ ∀ w : World, w.heap[(2 : Nat)]? = some o → pow10At w
theorem Pw.mono {s t : SH} (hs : Sub s t) (h : Pw s) : Pw t := let ⟨o, h1, h2⟩ := h; ⟨o, hs _ _ h1, h2⟩
theorem pow10_gt : Tryd.prog.globalNamed "internal/strconv.uint64pow10" = some 2 := by kernel_rfl
theorem Pw.of {W : World} (h : pow10At W) : Pw (all W) := by
  have hc := h.cell pow10_gt 0 (by decide)
  obtain ⟨o, ho⟩ : ∃ o, W.heap[(2 : Nat)]? = some o := by
    simp only [World.cell?] at hc
    cases hb : W.heap[(2 : Nat)]? with
    | none => simp [hb] at hc
    | some o => exact ⟨o, rfl⟩
  refine ⟨o, ho, fun w hw => ?_⟩
  unfold pow10At Lib.TabIs World.var? at *
  rw [pow10_gt] at h ⊢
  simp only [Option.bind_some] at h ⊢
  rw [ho] at h; rw [hw]; exact h
theorem Pw.at {s : SH} {E : World} {L : List HP} {w : World} (h : Pw s) (H : Holds E s L w) : pow10At w := let ⟨o, h1, h2⟩ := h; h2 w (H.at_s h1)
noncomputable def model_State_Text_f (m : MSt) : Option ByteArray := open Classical in if (textS m.lists m.regs).length ≤ 10000000000000 ∧ ∀ k v, m.regs k = some v → Kin.inI64 v then some (ba (textS m.lists m.regs)) else none
theorem toks_ge2 : ∀ xs : List (List UInt8), 2 * xs.length ≤ (toks xs).length
  | [] => Nat.zero_le _
  | x :: r => by
    have := toks_ge2 r
    have h2 : 1 ≤ (Lib.itoa (x.length : Int)).length := by
      obtain ⟨c, q, e, _⟩ := itoa_first (x.length : Int)
      rw [e]; simp
    unfold toks at *
    rw [List.flatMap_cons, List.length_append, List.length_cons]
    simp only [tok, List.length_append, List.length_cons]
    omega
theorem model_State_Text_w {E : World} {s : SH} {L : List HP} {w : World} {a0 : MSt} (h_gv : Pw s) {r_p0_lists : Nat} (h_p0_lists : MapKO kcS kI s r_p0_lists a0.lists) {r_p0_regs : Nat} (h_p0_regs : MapKF kcS vcI s r_p0_regs a0.regs) {b_p0 o_p0 : Nat} (hC_p0 : Cells s ⟨b_p0, o_p0, none⟩ [.map (some r_p0_lists), .map (some r_p0_regs)])
    {R : ByteArray} (hm : model_State_Text_f a0 = some R) (H : Holds E s (L) w) :
    Calls Tryd.prog 39 #[.pointer (some ⟨b_p0, o_p0, none⟩)] w fun e w' => e = .returned (.string R) ∧ Holds E s (L) w' := by
  unfold model_State_Text_f at hm
  split at hm
  case isFalse => cases hm
  case isTrue hc =>
    cases hm
    obtain ⟨hlen, hrng⟩ := hc
    have hlo := h_p0_lists
    have hro := h_p0_regs
    obtain ⟨m1, vs1, ⟨hm1, hu1, hok1, hl1⟩, ⟨es1, c1, hr1, he1, hwf1⟩, hsl1⟩ := h_p0_lists
    obtain ⟨m2, hm2, ⟨hu2, hok2⟩, es2, c2, hr2, he2, hwf2⟩ := h_p0_regs
    have k1 := keys_of_m hm1 hu1
    have k2 := keys_of_m hm2 hu2
    have e1 := keysOf_eq k1
    have e2 := keysOf_eq k2
    have hsz1 : es1.size = m1.length := by
      have := congrArg List.length he1
      rw [List.length_map, List.length_map, ← List.length_map (f := fun p : ByteArray × Value => p.1), kv_keys hl1, List.length_map] at this
      simpa using this
    have hsz2 : es2.size = m2.length := by
      have := congrArg List.length he2
      simpa [em] using this
    have hlen2 : (toks (textT (sortK (m1.map fun p => byL p.1)) (fun k => (a0.lists (ba k)).getD []) (sortK (m2.map fun p => byL p.1)) (fun k => (a0.regs (ba k)).getD 0))).length ≤ 10000000000000 := by
      rw [← e1, ← e2]; exact hlen
    have hfm : ∀ {α β : Type} (F : α → List β) (l : List α), (∀ x, 1 ≤ (F x).length) → l.length ≤ (l.flatMap F).length := by
      intro α β F l h
      induction l with
      | nil => simp
      | cons x r ih => rw [List.flatMap_cons, List.length_append, List.length_cons]; have := h x; omega
    have hb1 : m1.length ≤ 5000000000000 := by
      have h1 := toks_ge2 (textT (sortK (m1.map fun p => byL p.1)) (fun k => (a0.lists (ba k)).getD []) (sortK (m2.map fun p => byL p.1)) (fun k => (a0.regs (ba k)).getD 0))
      have h2 := hfm (tokL fun k => (a0.lists (ba k)).getD []) (sortK (m1.map fun p => byL p.1)) (fun x => by simp [tokL])
      rw [(sortK_perm _).length_eq, List.length_map] at h2
      unfold textT at h1
      rw [List.length_append] at h1
      unfold textT at hlen2
      omega
    have hb2 : m2.length ≤ 5000000000000 := by
      have h1 := toks_ge2 (textT (sortK (m1.map fun p => byL p.1)) (fun k => (a0.lists (ba k)).getD []) (sortK (m2.map fun p => byL p.1)) (fun k => (a0.regs (ba k)).getD 0))
      have h2 := hfm (tokR fun k => (a0.regs (ba k)).getD 0) (sortK (m2.map fun p => byL p.1)) (fun x => by simp [tokR])
      rw [(sortK_perm _).length_eq, List.length_map] at h2
      unfold textT at h1
      rw [List.length_append] at h1
      unfold textT at hlen2
      omega
    have hS : TxS w b_p0 o_p0 r_p0_lists r_p0_regs (m1.map fun p => byL p.1) (fun k => (a0.lists (ba k)).getD []) (m2.map fun p => byL p.1) (fun k => (a0.regs (ba k)).getD 0) := {
      p0 := by simpa using hC_p0.cell' H 0 _ rfl
      p1 := by simpa using hC_p0.cell' H 1 _ rfl
      m1 := by
        refine ⟨es1, c1, H.at_s hr1, ?_, hwf1, by omega⟩
        have := congrArg (List.map Prod.fst) he1
        rw [List.map_map, List.map_map] at this
        have h3 : (kv m1 vs1).map (Prod.fst ∘ fun p => (kcS.enc p.1, p.2)) = ((kv m1 vs1).map (·.1)).map fun k => Value.string k := by rw [List.map_map]; rfl
        rw [h3, kv_keys hl1, List.map_map] at this
        rw [List.map_map]
        exact this
      m2 := by
        refine ⟨es2, c2, H.at_s hr2, ?_, hwf2, by omega⟩
        have := congrArg (List.map Prod.fst) he2
        rw [List.map_map, List.map_map] at this
        rw [List.map_map]
        unfold em at this
        rw [List.map_map] at this
        exact this
      nd1 := k1.1
      nd2 := k2.1
      kl1 := fun k hk => by
        obtain ⟨p, hp, rfl⟩ := List.mem_map.1 hk
        have h : p.1.size ≤ maxLen := hok1 p hp
        rwa [← byL_len] at h
      kl2 := fun k hk => by
        obtain ⟨p, hp, rfl⟩ := List.mem_map.1 hk
        have h : p.1.size ≤ maxLen := (hok2 p hp).1
        rwa [← byL_len] at h
      lk1 := fun k hk => by
        obtain ⟨p, hp, rfl⟩ := List.mem_map.1 hk
        obtain ⟨A, c, hsl, hlk⟩ := KO_getW (P := Tryd.prog) mk_S 88 Tryd.underlying88 (hok1 p hp) hlo
        rw [ba_byL]
        refine ⟨A, c, fun w' hw' => ?_, fun j hj => ?_⟩
        · rw [strV_byL]
          exact hlk hr1 (hw'.trans (H.at_s hr1)) (Tryd.zeroValue27 _)
        · obtain ⟨b, off, cs, e, hK, hc⟩ := hsl.elem j hj
          obtain ⟨rfl, hr⟩ := hK
          have := hc.cell' H 0 _ rfl
          refine ⟨b, off, e, cell_lt this, by simpa [kI, Kin.int, Kin.sc] using this, hr⟩
      lk2 := fun k hk => by
        obtain ⟨p, hp, rfl⟩ := List.mem_map.1 hk
        refine ⟨fun w' hw' => ?_, ?_⟩
        · rw [strV_byL, ba_byL]
          exact KF_getW (P := Tryd.prog) (V := vcI) mk_S 89 Tryd.underlying89 (hok2 p hp).1 hro hr2 (hw'.trans (H.at_s hr2)) (Tryd.zeroValue3 _)
        · rw [ba_byL]
          cases hx : a0.regs p.1 with
          | none => exact ⟨by simp, by simp⟩
          | some v => exact hrng _ _ hx }
    refine (text_c hS (h_gv.at H) (by omega)).mono ?_
    rintro e w' ⟨rfl, hb⟩
    refine ⟨?_, H.below hb⟩
    unfold textS
    rw [e1, e2]; rfl
end Go.Proofs.YtemdmpgekegfhaaDoor
end
