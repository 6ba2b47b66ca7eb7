/- Models of the functions, or plain laws about them; each theorem states its own conditions. -/
import Derived.Test.YtlcgddghildedaaDq
set_option linter.unusedVariables false
set_option linter.unusedSimpArgs false
namespace PM
open Go RowKit
/-! Owned slices of numbers, all in blocks of their own. -/
def OwnI (w : World) (lo : Nat) (v : Value) (l : List Int) : Prop := w.ownsRow lo 3 1 v l.length (l.map (Value.int .i64))
abbrev VL := Value × List Int
def Apart (x y : VL) : Prop := ∀ b, x.1.ownBlock = some b → y.1.ownBlock ≠ some b
theorem Apart.symm {x y : VL} (h : Apart x y) : Apart y x := fun b hy hx => h b hx hy
structure Sep (w : World) (lo : Nat) (vs : List VL) : Prop where
  own : ∀ x ∈ vs, OwnI w lo x.1 x.2
  apart : vs.Pairwise Apart
section
variable {w w' : World} {lo : Nat} {vs us : List VL} {v : Value} {l : List Int}
theorem OwnI.move (h : OwnI w lo v l) (hb : ∀ b, v.ownBlock = some b → w'.heap[b]? = w.heap[b]?) : OwnI w' lo v l := own_move h hb
theorem OwnI.blk (h : OwnI w lo v l) {b : Nat} (hb : v.ownBlock = some b) : lo ≤ b ∧ b < w.heap.size ∧ ∃ cur, w.heap[b]? = some (.cells cur 3 (0, 0)) := own_blk h hb
theorem Sep.move (h : Sep w lo vs) (hb : ∀ b, lo ≤ b → b < w.heap.size → w'.heap[b]? = w.heap[b]?) : Sep w' lo vs :=
  ⟨fun x hx => (h.own x hx).move fun b e => hb b ((h.own x hx).blk e).1 ((h.own x hx).blk e).2.1, h.apart⟩
theorem Sep.sub (h : Sep w lo vs) (hs : us.Sublist vs) : Sep w lo us := ⟨fun x hx => h.own x (hs.subset hx), h.apart.sublist hs⟩
theorem Sep.perm (h : Sep w lo vs) (hp : vs.Perm us) : Sep w lo us := ⟨fun x hx => h.own x (hp.mem_iff.2 hx), (hp.pairwise_iff fun h => Apart.symm h).1 h.apart⟩
theorem Sep.lt (h : Sep w lo vs) {x : VL} (hx : x ∈ vs) {b : Nat} (hb : x.1.ownBlock = some b) : b < w.heap.size := ((h.own x hx).blk hb).2.1
/-- A new slice besides. -/
theorem Sep.cons {n : Nat} (h : Sep w lo vs) (ho : OwnI w lo v l) (hn : ∀ x ∈ vs, ∀ b, x.1.ownBlock = some b → b < n) (hv : ∀ b, v.ownBlock = some b → n ≤ b) : Sep w lo ((v, l) :: vs) :=
  ⟨fun x hx => by
    rcases List.mem_cons.1 hx with rfl | hx
    · exact ho
    · exact h.own x hx, List.pairwise_cons.2 ⟨fun y hy b h1 h2 => by have := hn y hy b h2; have := hv b h1; omega, h.apart⟩⟩
/-- A cell of the first slice is written. -/
theorem Sep.set (h : Sep w lo ((v, l) :: vs)) {g n c : Nat} (hv : v = .slice (some ⟨g, 0, none⟩) n c) {i : Nat} (hi : i < l.length) (x : Int) : Sep (w.setCell ⟨g, i, none⟩ (.int .i64 x)) lo ((v, l.set i x) :: vs) := by
  subst hv
  have ho : OwnI w lo (.slice (some ⟨g, 0, none⟩) n c) l := h.own _ (List.mem_cons_self ..)
  obtain ⟨l1, h2⟩ := ho
  generalize hn : l.length = n' at h2
  rcases h2 with ⟨e, _⟩ | ⟨g1, c1, cur, e, o1, o2, o3, o4, o5, o6⟩
  · cases e
  cases e
  subst hn
  have hs := fun b' => set_heap (u := Value.int .i64 x) (j := i) o2 b'
  have hap := List.pairwise_cons.1 h.apart
  refine ⟨fun y hy => ?_, List.pairwise_cons.2 ⟨hap.1, hap.2⟩⟩
  rcases List.mem_cons.1 hy with rfl | hy
  · refine (show (w.setCell ⟨g, i, none⟩ (.int .i64 x)).ownsRow lo 3 1 _ (l.set i x).length ((l.set i x).map (Value.int .i64)) from ⟨by simp, .inr ⟨g, c, _, by rw [List.length_set], o1, by rw [hs, if_pos rfl], by rw [List.length_set]; exact o3, o4, by simpa using o5, ?_⟩⟩)
    rw [List.length_set, Array.toList_setIfInBounds, List.take_set, o6, List.map_set]
  · refine (h.own y (List.mem_cons.2 (.inr hy))).move fun b hb => ?_
    rw [hs, if_neg]
    rintro rfl
    exact hap.1 y hy g rfl hb
theorem OwnI.cell (h : OwnI w lo v l) {g n c : Nat} (hv : v = .slice (some ⟨g, 0, none⟩) n c) {i : Nat} (hi : i < l.length) : n = l.length ∧ w.cell? ⟨g, i, none⟩ = some (.int .i64 (l.getD i 0)) ∧ w.frozen? ⟨g, i, none⟩ = false := by
  subst hv
  rcases h.2 with ⟨e, _⟩ | ⟨g1, c1, cur, e, o1, o2, o3, o4, o5, o6⟩
  · cases e
  · cases e
    refine ⟨rfl, ?_, by simp [World.frozen?, o2]⟩
    have : (l.map (Value.int .i64))[i]? = some (.int .i64 (l.getD i 0)) := by
      rw [List.getElem?_map, List.getElem?_eq_getElem hi, List.getD_eq_getElem?_getD, List.getElem?_eq_getElem hi]; rfl
    rw [← o6, List.getElem?_take, if_pos (by omega)] at this
    simp only [World.cell?, o2]
    simpa using this
theorem OwnI.arg {cx : Cx} (h : OwnI w lo v l) : ArrV cx w (fun b => b < w.heap.size) (.ints 3 .i64 l) v := by
  refine ⟨[.int .i64], rfl, fun r hr => by obtain ⟨x, _, rfl⟩ := List.mem_map.1 (show r ∈ l.map fun x => [C.i x] from hr); rfl, ?_⟩
  have hl : (rowsOf (.ints 3 .i64 l)).length = l.length := by show (l.map _).length = _; simp
  rcases h.2 with ⟨rfl, e⟩ | ⟨g, c, cur, rfl, o1, o2, o3, o4, o5, o6⟩
  · exact .inl ⟨by show l.map _ = []; rw [List.length_eq_zero_iff.1 e]; rfl, none, 0, rfl⟩
  · refine .inr ⟨⟨g, 0, none⟩, c, fun i _ => .int .i64 (l.getD i 0), by rw [hl], rfl, by rw [hl]; exact o3, (h.blk rfl).2.1, fun i j hi hj => ?_, fun i j hi hj => ?_⟩
    · rw [hl] at hi
      have hj : j < 1 := hj
      obtain rfl : j = 0 := by omega
      show w.cell? ⟨g, 0 + (i * 1 + 0), none⟩ = _
      rw [show 0 + (i * 1 + 0) = i by omega]
      exact (h.cell rfl hi).2.1
    · rw [hl] at hi
      have hj : j < 1 := hj
      obtain rfl : j = 0 := by omega
      have : asInt (cOf (rowsOf (.ints 3 .i64 l)) i 0) = l.getD i 0 := by
        show asInt (cAt ((l.map fun x => [C.i x]).getD i []) 0) = _
        rw [List.getD_eq_getElem?_getD, List.getElem?_map, List.getElem?_eq_getElem hi, List.getD_eq_getElem?_getD, List.getElem?_eq_getElem hi]; rfl
      show CellV cx w _ (.int .i64) (cOf (rowsOf (.ints 3 .i64 l)) i 0) (.int .i64 (l.getD i 0))
      rw [← this]; exact .int _ _
theorem own_ints {cx : Cx} {okf : Nat → Prop} {bs : List Nat} (h : OwnArr cx w okf (.ints 3 .i64 l) v bs) (hl : ∀ b ∈ bs, lo ≤ b) : bs = v.ownBlock.toList ∧ OwnI w lo v l := by
  obtain ⟨sh, xs, h1, h2, h3, h4, h5, h6⟩ := h
  have hsh : sh = [.int .i64] := by simp only [akOf, shAK, Option.some.injEq] at h1; exact h1.symm
  subst hsh
  have hlen : (rowsOf (.ints 3 .i64 l)).length = l.length := by show (l.map _).length = _; simp
  rw [hlen] at h4 h6
  have hx : xs = l.map (Value.int .i64) := by
    refine List.ext_getElem? fun i => ?_
    have hxl : xs.length = l.length := by have := h4.1; simpa using this
    by_cases hi : i < l.length
    · obtain ⟨cv, c1, c2⟩ := h6 i 0 hi (by decide)
      have c1 : xs[i]? = some cv := by simpa using c1
      have c2 := c2.int_inv
      have e : asInt (cOf (rowsOf (.ints 3 .i64 l)) i 0) = l[i] := by
        show asInt (cAt ((l.map fun x => [C.i x]).getD i []) 0) = _
        rw [List.getD_eq_getElem?_getD, List.getElem?_map, List.getElem?_eq_getElem hi]; rfl
      rw [c1, c2, e, List.getElem?_map, List.getElem?_eq_getElem hi]; rfl
    · rw [List.getElem?_eq_none (by omega), List.getElem?_eq_none (by simp; omega)]
  subst hx
  exact ⟨h5, own_up h4 fun b hb => hl b (by rw [h5, hb]; simp)⟩
end
end PM
