/- Models of the functions, or plain laws about them; each theorem states its own conditions. -/
import Derived.Test.YtlcgddghildedaaL3
set_option linter.unusedVariables false
set_option linter.unusedSimpArgs false
namespace PM
open Go RowKit

/-! Rows of three cells, the last of them a slice: the array and each of the slices are owned, each in a block of its own. -/
theorem own_move {w w' : World} {base e size n : Nat} {v : Value} {xs : List Value} (h : w.ownsRow base e size v n xs) (hb : ∀ b, v.ownBlock = some b → w'.heap[b]? = w.heap[b]?) : w'.ownsRow base e size v n xs := by
  refine ⟨h.1, ?_⟩
  rcases h.2 with h | ⟨g, c, cur, rfl, h1, h2, h3⟩
  · exact .inl h
  · exact .inr ⟨g, c, cur, rfl, h1, (hb g rfl).trans h2, h3⟩
theorem own_blk {w : World} {base e size n : Nat} {v : Value} {xs : List Value} (h : w.ownsRow base e size v n xs) {b : Nat} (hb : v.ownBlock = some b) : base ≤ b ∧ b < w.heap.size ∧ ∃ cur, w.heap[b]? = some (.cells cur e (0, 0)) := by
  rcases h.2 with ⟨rfl, _⟩ | ⟨g, c, cur, rfl, h1, h2, _⟩
  · cases hb
  · cases hb
    refine ⟨h1, ?_, cur, h2⟩
    rcases Nat.lt_or_ge g w.heap.size with h | h
    · exact h
    · rw [Array.getElem?_eq_none h] at h2; cases h2
theorem own_type {w : World} {base base' e e' size size' n n' : Nat} {v v' : Value} {xs xs' : List Value} (h : w.ownsRow base e size v n xs) (h' : w.ownsRow base' e' size' v' n' xs') (he : e ≠ e') {b : Nat} (hb : v.ownBlock = some b) : v'.ownBlock ≠ some b := by
  intro hb'
  obtain ⟨_, _, c1, q1⟩ := own_blk h hb
  obtain ⟨_, _, c2, q2⟩ := own_blk h' hb'
  rw [q1] at q2
  cases q2
  exact he rfl
theorem own_eq {w : World} {base base' e e' size n n' : Nat} {v : Value} {xs xs' : List Value} (h : w.ownsRow base e size v n xs) (h' : w.ownsRow base' e' size v n' xs') : n = n' ∧ xs = xs' := by
  obtain ⟨l, h⟩ := h
  obtain ⟨l', h'⟩ := h'
  rcases h with ⟨rfl, rfl⟩ | ⟨g, c, cur, rfl, h1, h2, h3, h4, h5, h6⟩
  · rcases h' with ⟨_, rfl⟩ | ⟨g, c, cur, e, _⟩
    · exact ⟨rfl, by rw [List.length_eq_zero_iff.1 (show xs.length = 0 by rw [l]; simp), List.length_eq_zero_iff.1 (show xs'.length = 0 by rw [l']; simp)]⟩
    · cases e
  · rcases h' with ⟨e, _⟩ | ⟨g', c', cur', e, k1, k2, k3, k4, k5, k6⟩
    · cases e
    · cases e
      rw [h2] at k2
      cases k2
      exact ⟨rfl, h6.symm.trans k6⟩

abbrev E3 := Int × Int × List (List Int)
def toRow (e : E3) : List C := [.i e.1, .i e.2.1, .s (std.ofv e.2.2)]
/-- A slice owns rows of two numbers. -/
def RowsAt (w : World) (lo U : Nat) (v : Value) (l : List (List Int)) (ys : List Value) : Prop :=
  w.ownsRow lo U 2 v l.length ys ∧ (∀ r ∈ l, r.length = 2) ∧ ∀ q j, q < l.length → j < 2 → ys[q * 2 + j]? = some (.int .i64 ((l.getD q []).getD j 0))
theorem RowsAt.move {w w' : World} {lo U : Nat} {v : Value} {l : List (List Int)} {ys : List Value} (h : RowsAt w lo U v l ys) (hb : ∀ b, v.ownBlock = some b → w'.heap[b]? = w.heap[b]?) : RowsAt w' lo U v l ys := ⟨own_move h.1 hb, h.2⟩

structure Deep (w : World) (lo T U : Nat) (v : Value) (es : List E3) (xs : List Value) (p : Nat → Value) (ys : Nat → List Value) : Prop where
  own : w.ownsRow lo T 3 v es.length xs
  cell : ∀ i e, es[i]? = some e → xs[i * 3]? = some (.int .i64 e.1) ∧ xs[i * 3 + 1]? = some (.int .i64 e.2.1) ∧ xs[i * 3 + 2]? = some (p i)
  row : ∀ i e, es[i]? = some e → RowsAt w lo U (p i) e.2.2 (ys i)
  inj : ∀ i j b, i < es.length → j < es.length → (p i).ownBlock = some b → (p j).ownBlock = some b → i = j

section
variable {w w' : World} {lo T U : Nat} {v : Value} {es : List E3} {xs : List Value} {p : Nat → Value} {ys : Nat → List Value}
theorem Deep.at_ (h : Deep w lo T U v es xs p ys) {i : Nat} (hi : i < es.length) : es[i]? = some es[i] := List.getElem?_eq_getElem hi
theorem Deep.pblk (h : Deep w lo T U v es xs p ys) {i b : Nat} (hi : i < es.length) (hb : (p i).ownBlock = some b) : lo ≤ b ∧ b < w.heap.size := ⟨(own_blk (h.row i _ (h.at_ hi)).1 hb).1, (own_blk (h.row i _ (h.at_ hi)).1 hb).2.1⟩
theorem Deep.vblk (h : Deep w lo T U v es xs p ys) {b : Nat} (hb : v.ownBlock = some b) : lo ≤ b ∧ b < w.heap.size := ⟨(own_blk h.own hb).1, (own_blk h.own hb).2.1⟩
theorem Deep.pv (h : Deep w lo T U v es xs p ys) (hTU : U ≠ T) {i b : Nat} (hi : i < es.length) (hb : (p i).ownBlock = some b) : v.ownBlock ≠ some b := own_type (h.row i _ (h.at_ hi)).1 h.own hTU hb
theorem Deep.move (h : Deep w lo T U v es xs p ys) (hb : ∀ b, lo ≤ b → b < w.heap.size → w'.heap[b]? = w.heap[b]?) : Deep w' lo T U v es xs p ys := by
  refine ⟨own_move h.own fun b e => hb b (h.vblk e).1 (h.vblk e).2, h.cell, fun i e he => (h.row i e he).move fun b eb => ?_, h.inj⟩
  have hi : i < es.length := (List.getElem?_eq_some_iff.1 he).1
  exact hb b (h.pblk hi eb).1 (h.pblk hi eb).2
theorem Deep.len (h : Deep w lo T U v es xs p ys) : xs.length = es.length * 3 := h.own.1
theorem Deep.app {v1 v2 v' : Value} {es1 es2 : List E3} {xs1 xs2 : List Value} {p1 p2 : Nat → Value} {ys1 ys2 : Nat → List Value} (hTU : U ≠ T)
    (h1 : Deep w lo T U v1 es1 xs1 p1 ys1) (h2 : Deep w lo T U v2 es2 xs2 p2 ys2) (hd : ∀ i j b, i < es1.length → j < es2.length → (p1 i).ownBlock = some b → (p2 j).ownBlock ≠ some b)
    (ho : w'.ownsRow lo T 3 v' (es1.length + es2.length) (xs1 ++ xs2)) (hg : w.grownBy w' v1.ownBlock) :
    Deep w' lo T U v' (es1 ++ es2) (xs1 ++ xs2) (fun i => if i < es1.length then p1 i else p2 (i - es1.length)) (fun i => if i < es1.length then ys1 i else ys2 (i - es1.length)) := by
  have l1 := h1.len
  have keep : ∀ {q : Value} {l : List (List Int)} {ys : List Value}, RowsAt w lo U q l ys → RowsAt w' lo U q l ys := by
    intro q l ys h
    refine h.move fun b e => hg.block b (own_blk h.1 e).2.1 fun e' => ?_
    exact own_type h.1 h1.own hTU e e'.symm
  refine ⟨by rw [List.length_append]; exact ho, fun i e he => ?_, fun i e he => ?_, fun i j b hi hj e1 e2 => ?_⟩
  · by_cases h : i < es1.length
    · rw [List.getElem?_append_left h] at he
      obtain ⟨q1, q2, q3⟩ := h1.cell i e he
      refine ⟨?_, ?_, ?_⟩
      · rw [List.getElem?_append_left (by omega)]; exact q1
      · rw [List.getElem?_append_left (by omega)]; exact q2
      · rw [List.getElem?_append_left (by omega)]; simp only [h, if_true]; exact q3
    · rw [List.getElem?_append_right (by omega)] at he
      obtain ⟨q1, q2, q3⟩ := h2.cell _ e he
      refine ⟨?_, ?_, ?_⟩
      · rw [List.getElem?_append_right (by omega), l1, show i * 3 - es1.length * 3 = (i - es1.length) * 3 by omega]; exact q1
      · rw [List.getElem?_append_right (by omega), l1, show i * 3 + 1 - es1.length * 3 = (i - es1.length) * 3 + 1 by omega]; exact q2
      · rw [List.getElem?_append_right (by omega), l1, show i * 3 + 2 - es1.length * 3 = (i - es1.length) * 3 + 2 by omega]; simp only [h, if_false]; exact q3
  · by_cases h : i < es1.length
    · rw [List.getElem?_append_left h] at he
      simp only [h, if_true]; exact keep (h1.row i e he)
    · rw [List.getElem?_append_right (by omega)] at he
      simp only [h, if_false]; exact keep (h2.row _ e he)
  · rw [List.length_append] at hi hj
    by_cases h : i < es1.length <;> by_cases h' : j < es1.length <;> simp only [h, h', if_true, if_false] at e1 e2
    · exact h1.inj i j b h h' e1 e2
    · exact absurd e2 (hd i (j - es1.length) b h (by omega) e1)
    · exact absurd e1 (hd j (i - es1.length) b h' (by omega) e2)
    · have := h2.inj (i - es1.length) (j - es1.length) b (by omega) (by omega) e1 e2; omega
theorem Deep.one {g : Nat} {a b : Int} {q : Value} {l : List (List Int)} {y : List Value} (hg : w.heap[g]? = some (.cells #[.int .i64 a, .int .i64 b, q] T (0, 0))) (hlo : lo ≤ g) (hp : RowsAt w lo U q l y) :
    Deep w lo T U (.slice (some ⟨g, 0, none⟩) 1 1) [(a, b, l)] [.int .i64 a, .int .i64 b, q] (fun _ => q) (fun _ => y) := by
  have one : ∀ (i : Nat) (e : E3), [(a, b, l)][i]? = some e → i = 0 ∧ e = (a, b, l) := by
    intro i e he
    match i, he with
    | 0, he => exact ⟨rfl, by simpa using he.symm⟩
  refine ⟨⟨rfl, .inr ⟨g, 1, _, rfl, hlo, hg, Nat.le_refl _, by decide, rfl, rfl⟩⟩, fun i e he => ?_, fun i e he => ?_, fun i j _ hi hj _ _ => ?_⟩
  · obtain ⟨rfl, rfl⟩ := one i e he
    exact ⟨rfl, rfl, rfl⟩
  · obtain ⟨rfl, rfl⟩ := one i e he
    exact hp
  · simp at hi hj; omega
theorem Deep.cells (h : Deep w lo T U v es xs p ys) {ad : Addr} {k c : Nat} (hv : v = .slice (some ad) k c) :
    k = es.length ∧ ad.off = 0 ∧ ad.spot = none ∧ ∀ (j : Nat) (u : Value), xs[j]? = some u → w.cell? ⟨ad.block, j, none⟩ = some u := by
  subst hv
  rcases h.own.2 with ⟨e, _⟩ | ⟨g, c', cur, e, _, h2, h3, _, h5, h6⟩
  · cases e
  · cases e
    refine ⟨rfl, rfl, rfl, fun j u hu => ?_⟩
    have hj : j < es.length * 3 := by
      rw [← h.len]
      rcases Nat.lt_or_ge j xs.length with h | h
      · exact h
      · rw [List.getElem?_eq_none h] at hu; cases hu
    rw [← h6, List.getElem?_take, if_pos hj] at hu
    simp only [World.cell?, h2]
    simpa using hu
theorem Deep.oneCell (h : Deep w lo T U v es xs p ys) : ∀ u ∈ xs, u.oneCell' = true := by
  intro u hu
  obtain ⟨j, hj⟩ := List.mem_iff_getElem?.1 hu
  have hlt : j < es.length * 3 := by
    rw [← h.len]
    rcases Nat.lt_or_ge j xs.length with h | h
    · exact h
    · rw [List.getElem?_eq_none h] at hj; cases hj
  have hi : j / 3 < es.length := by omega
  obtain ⟨q1, q2, q3⟩ := h.cell (j / 3) _ (h.at_ hi)
  have e : j = j / 3 * 3 + j % 3 := by omega
  have hm : j % 3 < 3 := Nat.mod_lt _ (by omega)
  have ho := (h.row (j / 3) _ (h.at_ hi)).1
  generalize es[j / 3] = en at *
  generalize j / 3 = i at *
  generalize j % 3 = r at *
  rw [e] at hj
  match r, hm with
  | 0, _ => rw [Nat.add_zero, q1] at hj; cases hj; rfl
  | 1, _ => rw [q2] at hj; cases hj; rfl
  | 2, _ =>
    rw [q3] at hj; cases hj
    rcases ho.2 with ⟨e, _⟩ | ⟨g, c, cur, e, _⟩ <;> rw [e] <;> rfl
end
end PM
