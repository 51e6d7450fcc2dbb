/- Kinds of data: how a Lean value lies in memory that stays (K) and in memory that is owned (M). -/
import Derived.Test.YtemdmpgekegfhaaDoorSep
namespace Go.Proofs.YtemdmpgekegfhaaDoor
open Go.RowKit
set_option linter.all false
set_option maxRecDepth 10000

structure Kin (α : Type) where
  sz : Nat
  by_ : Nat
  e : TypeId
  K : SH → α → List Value → Prop
  M : α → List Value → HP
  szpos : 0 < sz
  len : ∀ {s x cs}, K s x cs → cs.length = sz
  one : ∀ {s x cs}, K s x cs → ∀ u ∈ cs, u.oneCell' = true
  mono : ∀ {s t x cs}, Sub s t → K s x cs → K t x cs
  lenM : ∀ {x cs h}, M x cs h → cs.length = sz
  oneM : ∀ {x cs h}, M x cs h → ∀ u ∈ cs, u.oneCell' = true
  fr : ∀ {E s x cs L w}, Holds E s (M x cs :: L) w → ∃ s', Sub s s' ∧ Holds E s' L w ∧ K s' x cs

namespace Kin
/-- Values of one cell that hold no address. -/
def sc {α : Type} (enc : α → Value) (ok : α → Prop) (bytes e : Nat) (h1 : ∀ x, (enc x).oneCell' = true) : Kin α where
  sz := 1
  by_ := bytes
  e := e
  K := fun _ x cs => cs = [enc x] ∧ ok x
  M := fun x cs h => (cs = [enc x] ∧ ok x) ∧ emp h
  szpos := Nat.one_pos
  len := fun h => by rw [h.1]; rfl
  one := fun h u hu => by rw [h.1] at hu; simp at hu; subst hu; exact h1 _
  mono := fun _ h => h
  lenM := fun h => by rw [h.1.1]; rfl
  oneM := fun h u hu => by rw [h.1.1] at hu; simp at hu; subst hu; exact h1 _
  fr := fun {E s x cs L w} H => ⟨s, Sub.refl s, (Holds.pure_ (A := Go.Proofs.YtemdmpgekegfhaaDoor.emp) H).2.emp, (Holds.pure_ (A := Go.Proofs.YtemdmpgekegfhaaDoor.emp) H).1⟩
def inI64 (x : Int) : Prop := -9223372036854775808 ≤ x ∧ x ≤ 9223372036854775807
def int (e : TypeId) : Kin Int := sc (Value.int .i64) inI64 8 e (fun _ => rfl)
def bool (e : TypeId) : Kin Bool := sc Value.bool (fun _ => True) 1 e (fun _ => rfl)
def str (e : TypeId) : Kin ByteArray := sc Value.string (fun s => s.size ≤ 140737488351232) 16 e (fun _ => rfl)

variable {α : Type}
/-- Elements one behind the other. -/
def Row (d : Kin α) (s : SH) : List α → List Value → Prop
  | [], cs => cs = []
  | x :: xs, cs => ∃ c r, cs = c ++ r ∧ d.K s x c ∧ Row d s xs r
def RowM (d : Kin α) : List α → List Value → HP
  | [], cs => fun h => cs = [] ∧ emp h
  | x :: xs, cs => fun h => ∃ c r, cs = c ++ r ∧ star (d.M x c) (RowM d xs r) h
theorem Row.len {d : Kin α} {s : SH} : ∀ {xs : List α} {cs : List Value}, d.Row s xs cs → cs.length = xs.length * d.sz
  | [], _, h => by rw [h]; simp
  | x :: xs, _, ⟨c, r, e, hc, hr⟩ => by rw [e, List.length_append, d.len hc, Row.len hr, List.length_cons, Nat.succ_mul]; omega
theorem Row.mono {d : Kin α} {s t : SH} (hs : Sub s t) : ∀ {xs : List α} {cs : List Value}, d.Row s xs cs → d.Row t xs cs
  | [], _, h => h
  | _ :: _, _, ⟨c, r, e, hc, hr⟩ => ⟨c, r, e, d.mono hs hc, Row.mono hs hr⟩
theorem Row.one {d : Kin α} {s : SH} : ∀ {xs : List α} {cs : List Value}, d.Row s xs cs → ∀ u ∈ cs, u.oneCell' = true
  | [], _, h, u, hu => by rw [h] at hu; cases hu
  | x :: xs, _, ⟨c, r, e, hc, hr⟩, u, hu => by
    rw [e] at hu
    rcases List.mem_append.1 hu with h | h
    · exact d.one hc u h
    · exact Row.one hr u h
theorem Row.append {d : Kin α} {s : SH} : ∀ {xs ys : List α} {cs ds : List Value}, d.Row s xs cs → d.Row s ys ds → d.Row s (xs ++ ys) (cs ++ ds)
  | [], _, _, _, h, k => by rw [h]; simpa using k
  | x :: xs, _, _, _, ⟨c, r, e, hc, hr⟩, k => ⟨c, r ++ _, by rw [e, List.append_assoc], hc, Row.append hr k⟩
theorem Row.single {d : Kin α} {s : SH} {x : α} {c : List Value} (h : d.K s x c) : d.Row s [x] c := ⟨c, [], by simp, h, rfl⟩
theorem Row.take {d : Kin α} {s : SH} : ∀ {xs : List α} {cs : List Value} (k : Nat), d.Row s xs cs → d.Row s (xs.take k) (cs.take (k * d.sz))
  | [], _, k, h => by rw [h]; simp [Row]
  | x :: xs, _, 0, h => by simp [Row]
  | x :: xs, _, k + 1, ⟨c, r, e, hc, hr⟩ => by
    refine ⟨c, r.take (k * d.sz), ?_, hc, Row.take k hr⟩
    rw [e, List.take_append, d.len hc, List.take_of_length_le (by rw [d.len hc, Nat.succ_mul]; omega)]
    congr 2; rw [Nat.succ_mul]; omega
theorem Row.drop {d : Kin α} {s : SH} : ∀ {xs : List α} {cs : List Value} (k : Nat), d.Row s xs cs → d.Row s (xs.drop k) (cs.drop (k * d.sz))
  | [], _, k, h => by rw [h]; simp [Row]
  | x :: xs, _, 0, h => by simpa using h
  | x :: xs, _, k + 1, ⟨c, r, e, hc, hr⟩ => by
    have := Row.drop k hr
    have e2 : (k + 1) * d.sz - d.sz = k * d.sz := by rw [Nat.succ_mul]; omega
    have e3 : c.drop ((k + 1) * d.sz) = [] := List.drop_of_length_le (by rw [d.len hc, Nat.succ_mul]; omega)
    rw [e, List.drop_append, d.len hc, e3, e2]; simpa using this
theorem Row.get {d : Kin α} {s : SH} : ∀ {xs : List α} {cs : List Value}, d.Row s xs cs → ∀ (i : Nat) (hi : i < xs.length), ∃ c, d.K s xs[i] c ∧ ∀ j u, c[j]? = some u → cs[i * d.sz + j]? = some u
  | [], _, _, i, hi => by simp at hi
  | x :: xs, _, ⟨c, r, e, hc, hr⟩, 0, _ => ⟨c, hc, fun j u hj => by rw [e, Nat.zero_mul, Nat.zero_add, List.getElem?_append_left (List.getElem?_eq_some_iff.1 hj).1]; exact hj⟩
  | x :: xs, _, ⟨c, r, e, hc, hr⟩, i + 1, hi => by
    obtain ⟨c', h1, h2⟩ := Row.get hr i (by simpa using hi)
    refine ⟨c', h1, fun j u hj => ?_⟩
    have := h2 j u hj
    rw [e, List.getElem?_append_right (by rw [d.len hc, Nat.succ_mul]; omega), d.len hc]
    have e2 : (i + 1) * d.sz + j - d.sz = i * d.sz + j := by rw [Nat.succ_mul]; omega
    rw [e2]; exact this
theorem RowM.len {d : Kin α} : ∀ {xs : List α} {cs : List Value} {h : SH}, d.RowM xs cs h → cs.length = xs.length * d.sz
  | [], _, _, h => by rw [h.1]; simp
  | x :: xs, _, _, ⟨c, r, e, _, _, hc, hr, _⟩ => by rw [e, List.length_append, d.lenM hc, RowM.len hr, List.length_cons, Nat.succ_mul]; omega
theorem RowM.one {d : Kin α} : ∀ {xs : List α} {cs : List Value} {h : SH}, d.RowM xs cs h → ∀ u ∈ cs, u.oneCell' = true
  | [], _, _, h, u, hu => by rw [h.1] at hu; cases hu
  | x :: xs, _, _, ⟨c, r, e, _, _, hc, hr, _⟩, u, hu => by
    rw [e] at hu
    rcases List.mem_append.1 hu with h | h
    · exact d.oneM hc u h
    · exact RowM.one hr u h
theorem RowM.snoc {d : Kin α} {x : α} {c : List Value} : ∀ {xs : List α} {cs : List Value} {h : SH}, star (d.RowM xs cs) (d.M x c) h → d.RowM (xs ++ [x]) (cs ++ c) h
  | [], cs, h, k => by
    obtain ⟨h1, h2, ⟨rfl, he⟩, hb, hd, rfl⟩ := k
    rw [uni_emp_left he]
    exact ⟨c, [], by simp, h2, fun _ => none, hb, ⟨rfl, fun _ => rfl⟩, fun _ => .inr rfl, by funext b; unfold uni; cases h2 b <;> rfl⟩
  | y :: ys, cs, h, k => by
    obtain ⟨h1, h2, ⟨c', r, e, ha⟩, hb, hd, rfl⟩ := k
    refine ⟨c', r ++ c, by rw [e, List.append_assoc], ?_⟩
    have := (star_assoc (A := d.M y c') (B := d.RowM ys r) (C := d.M x c)).1 ⟨h1, h2, ha, hb, hd, rfl⟩
    exact star_mono (fun _ a => a) (fun h k => RowM.snoc k) this
theorem RowM.fr {d : Kin α} {E : World} {w : World} {L : List HP} : ∀ {xs : List α} {cs : List Value} {s : SH}, Holds E s (d.RowM xs cs :: L) w → ∃ s', Sub s s' ∧ Holds E s' L w ∧ d.Row s' xs cs
  | [], cs, s, H => ⟨s, Sub.refl s, (Holds.pure_ (A := Go.Proofs.YtemdmpgekegfhaaDoor.emp) H).2.emp, (Holds.pure_ (A := Go.Proofs.YtemdmpgekegfhaaDoor.emp) H).1⟩
  | x :: xs, cs, s, H => by
    obtain ⟨c, H⟩ := Holds.exists_ H
    obtain ⟨r, H⟩ := Holds.exists_ H
    obtain ⟨e, H⟩ := Holds.pure_ H
    obtain ⟨s1, h1, H1, k1⟩ := d.fr H.open_
    obtain ⟨s2, h2, H2, k2⟩ := RowM.fr H1
    exact ⟨s2, h1.trans h2, H2, c, r, e, d.mono h2 k1, k2⟩

/-- The slice v reads as xs in memory that stays. -/
def Sl (d : Kin α) (s : SH) (v : Value) (xs : List α) : Prop :=
  ∃ A cap, v = .slice A xs.length cap ∧ xs.length ≤ cap ∧ xs.length * d.by_ ≤ 140737488355328 ∧
    (xs ≠ [] → ∃ b off cur e' fr, A = some ⟨b, off, none⟩ ∧ s b = some (.cells cur e' fr) ∧ d.Row s xs ((cur.toList.drop off).take (xs.length * d.sz)))
/-- The slice v is owned and holds xs. -/
def Osl (d : Kin α) (v : Value) (xs : List α) : HP := fun h =>
  ((v = .slice none 0 0 ∧ xs = []) ∧ emp h) ∨
  (∃ b, ∃ cap, ∃ cur : Array Value, ((v = .slice (some ⟨b, 0, none⟩) xs.length cap ∧ xs.length ≤ cap ∧ cap ≤ maxLen ∧ cur.size = cap * d.sz ∧ xs.length * d.by_ ≤ 140737488355328) ∧ star (pt b (.cells cur d.e (0, 0))) (d.RowM xs (cur.toList.take (xs.length * d.sz))) h))
theorem Sl.mono {d : Kin α} {s t : SH} (hs : Sub s t) {v : Value} {xs : List α} (h : d.Sl s v xs) : d.Sl t v xs := by
  obtain ⟨A, cap, h1, h2, h3, h4⟩ := h
  exact ⟨A, cap, h1, h2, h3, fun hx => let ⟨b, off, cur, e, fr, k1, k2, k3⟩ := h4 hx; ⟨b, off, cur, e, fr, k1, hs _ _ k2, k3.mono hs⟩⟩
theorem Sl.nil {d : Kin α} {s : SH} : d.Sl s (.slice none 0 0) [] := ⟨none, 0, rfl, Nat.le_refl _, by simp, fun h => absurd rfl h⟩
theorem Sl.elem {d : Kin α} {s : SH} {A : Option Addr} {n cap : Nat} {xs : List α} (h : d.Sl s (.slice A n cap) xs) (i : Nat) (hi : i < xs.length) :
    ∃ b off c, A = some ⟨b, off, none⟩ ∧ d.K s xs[i] c ∧ Cells s ⟨b, off + i * d.sz, none⟩ c := by
  obtain ⟨A', cap', h1, h2, h3, h4⟩ := h
  cases h1
  obtain ⟨b, off, cur, e, fr, k1, k2, k3⟩ := h4 (fun hx => by rw [hx] at hi; simp at hi)
  obtain ⟨c, hc, hg⟩ := k3.get i hi
  refine ⟨b, off, c, k1, hc, rfl, cur, e, fr, k2, fun j u hj => ?_⟩
  have := hg j u hj
  rw [List.getElem?_take] at this
  split at this
  · rw [List.getElem?_drop] at this
    simp only [Array.getElem?_toList] at this
    rw [← this]; congr 1; exact Nat.add_assoc ..
  · cases this
theorem Osl.nil {d : Kin α} {E : World} {s : SH} {L : List HP} {w : World} (H : Holds E s L w) : Holds E s (d.Osl (.slice none 0 0) [] :: L) w :=
  H.mkEmp.map fun _ h => .inl ⟨⟨rfl, rfl⟩, h⟩
theorem Osl.fr {d : Kin α} {E : World} {s : SH} {L : List HP} {w : World} {v : Value} {xs : List α} (H : Holds E s (d.Osl v xs :: L) w) :
    ∃ s', Sub s s' ∧ Holds E s' L w ∧ d.Sl s' v xs := by
  rcases Holds.or_ H with H | H
  · obtain ⟨⟨e1, e2⟩, H'⟩ := Holds.pure_ H
    subst e1; subst e2
    exact ⟨s, Sub.refl s, H'.emp, Sl.nil⟩
  · obtain ⟨b, H⟩ := Holds.exists_ H
    obtain ⟨cap, H⟩ := Holds.exists_ H
    obtain ⟨cur, H⟩ := Holds.exists_ H
    obtain ⟨⟨e1, h1, h2, h3, h4⟩, H'⟩ := Holds.pure_ H
    subst e1
    obtain ⟨s1, g1, g2, H1⟩ := H'.open_.freeze
    obtain ⟨s2, k1, H2, k2⟩ := RowM.fr H1
    exact ⟨s2, g1.trans k1, H2, _, cap, rfl, h1, h4, fun _ => ⟨b, 0, cur, d.e, (0, 0), rfl, k1 _ _ g2, by simpa using k2⟩⟩
theorem Osl.oneCell {d : Kin α} {v : Value} {xs : List α} {h : SH} (k : d.Osl v xs h) : v.oneCell' = true := by
  rcases k with ⟨⟨rfl, _⟩, _⟩ | ⟨b, cap, cur, ⟨rfl, _⟩, _⟩ <;> rfl
/-- A slice as a value of one cell. -/
def slice (d : Kin α) (e : TypeId) : Kin (List α) where
  sz := 1
  by_ := 24
  e := e
  K := fun s xs cs => ∃ v, cs = [v] ∧ d.Sl s v xs
  M := fun xs cs h => ∃ v, cs = [v] ∧ d.Osl v xs h
  szpos := Nat.one_pos
  len := fun ⟨_, h, _⟩ => by rw [h]; rfl
  one := fun ⟨v, h, A, cap, e, _⟩ u hu => by rw [h] at hu; simp at hu; subst hu; rw [e]; rfl
  mono := fun hs ⟨v, h, k⟩ => ⟨v, h, k.mono hs⟩
  lenM := fun ⟨_, h, _⟩ => by rw [h]; rfl
  oneM := fun ⟨v, h, k⟩ u hu => by rw [h] at hu; simp at hu; subst hu; exact Osl.oneCell k
  fr := fun H => by
    obtain ⟨v, H⟩ := Holds.exists_ H
    obtain ⟨e, H⟩ := Holds.pure_ H
    obtain ⟨s', h1, h2, h3⟩ := Osl.fr H
    exact ⟨s', h1, h2, v, e, h3⟩
def pair {α β : Type} (a : Kin α) (b : Kin β) : Kin (α × β) where
  sz := a.sz + b.sz
  by_ := 0
  e := 0
  K := fun s x cs => ∃ c1 c2, cs = c1 ++ c2 ∧ a.K s x.1 c1 ∧ b.K s x.2 c2
  M := fun x cs h => ∃ c1, ∃ c2, cs = c1 ++ c2 ∧ star (a.M x.1 c1) (b.M x.2 c2) h
  szpos := Nat.add_pos_left a.szpos _
  len := fun ⟨c1, c2, h, k1, k2⟩ => by rw [h, List.length_append, a.len k1, b.len k2]
  one := fun ⟨c1, c2, h, k1, k2⟩ u hu => by
    rw [h] at hu
    exact (List.mem_append.1 hu).elim (a.one k1 u) (b.one k2 u)
  mono := fun hs ⟨c1, c2, h, k1, k2⟩ => ⟨c1, c2, h, a.mono hs k1, b.mono hs k2⟩
  lenM := fun ⟨c1, c2, h, _, _, k1, k2, _⟩ => by rw [h, List.length_append, a.lenM k1, b.lenM k2]
  oneM := fun ⟨c1, c2, h, _, _, k1, k2, _⟩ u hu => by
    rw [h] at hu
    exact (List.mem_append.1 hu).elim (a.oneM k1 u) (b.oneM k2 u)
  fr := fun H => by
    obtain ⟨c1, H⟩ := Holds.exists_ H
    obtain ⟨c2, H⟩ := Holds.exists_ H
    obtain ⟨e, H⟩ := Holds.pure_ H
    obtain ⟨s1, h1, H1, k1⟩ := a.fr H.open_
    obtain ⟨s2, h2, H2, k2⟩ := b.fr H1
    exact ⟨s2, h1.trans h2, H2, c1, c2, e, a.mono h2 k1, k2⟩
/-- A struct: its fields as nested pairs. -/
def iso {α β : Type} (d : Kin α) (f : β → α) (bytes e : Nat) : Kin β where
  sz := d.sz
  by_ := bytes
  e := e
  K := fun s x cs => d.K s (f x) cs
  M := fun x cs => d.M (f x) cs
  szpos := d.szpos
  len := d.len
  one := d.one
  mono := d.mono
  lenM := d.lenM
  oneM := d.oneM
  fr := d.fr
end Kin
end Go.Proofs.YtemdmpgekegfhaaDoor
