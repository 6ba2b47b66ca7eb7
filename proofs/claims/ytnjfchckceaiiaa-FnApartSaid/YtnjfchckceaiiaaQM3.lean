/- Models of the functions, or plain laws about them; each theorem states its own conditions. -/
import Derived.Test.YtnjfchckceaiiaaQM2
set_option linter.unusedVariables false
set_option linter.unusedSimpArgs false
open Go.Proofs
namespace X
open PM Go

theorem undoOk_of {a b c : Int} {r : Bool} (h : ∀ k : Bool → R, impl_UndoOk std a b c k = k r) : undoOk a b c = r := by
  have := (UndoOk_val a b c (fun b => some (.bool b))).symm.trans (h _)
  simpa using this
theorem undoOk0 : undoOk 0 0 0 = true := undoOk_of fun k => by simp [impl_UndoOk, impl_UndoOk_f]
theorem undoOk1 {key v : Int} (hk : 0 ≤ key ∧ key ≤ 7) (hv : 0 ≤ v ∧ v ≤ 65535) : undoOk 1 key v = true := undoOk_of fun k => by
  unfold impl_UndoOk impl_UndoOk_f
  simp only [std_eq, show ((1 : Int) == 0) = false from rfl, show ((1 : Int) == 1) = true from rfl, cond_false, cond_true, isKey_val, isValue_val, keyOk_of hk, valOk_of hv]
theorem undoOk2 {key : Int} (hk : 0 ≤ key ∧ key ≤ 7) : undoOk 2 key 0 = true := undoOk_of fun k => by
  unfold impl_UndoOk impl_UndoOk_f
  simp only [std_eq, show ((2 : Int) == 0) = false from rfl, show ((2 : Int) == 1) = false from rfl, show ((2 : Int) == 2) = true from rfl, cond_false, cond_true, isKey_val, keyOk_of hk]
  rfl
theorem undoOk3 {v : Int} (hv : 0 ≤ v ∧ v ≤ 65535) : undoOk 3 0 v = true := undoOk_of fun k => by
  unfold impl_UndoOk impl_UndoOk_f
  simp only [std_eq, show ((3 : Int) == 0) = false from rfl, show ((3 : Int) == 1) = false from rfl, show ((3 : Int) == 2) = false from rfl, show ((3 : Int) == 3) = true from rfl, show ((0 : Int) == 0) = true from rfl, cond_false, cond_true, isValue_val, valOk_of hv]

/-- A right shelf. -/
def ShOk (l : List Int) (c : Int) : Prop := SlOk l ∧ 0 ≤ c ∧ c ≤ 65535
theorem shelfOk_iff {l : List Int} {c : Int} : shelfOk l c = true ↔ ShOk l c := by
  unfold shelfOk ShOk
  constructor
  · intro h
    cases hs : slotsOk l
    · rw [hs] at h; cases h
    · rw [hs, cond_true] at h
      exact ⟨slotsOk_iff.1 hs, valOk_nn h⟩
  · rintro ⟨h1, h2⟩
    rw [slotsOk_iff.2 h1, cond_true]
    exact valOk_of h2
/-- Two shelves that hold the same. -/
def Like (l : List Int) (c : Int) (l' : List Int) (c' : Int) : Prop := ShOk l c ∧ ShOk l' c' ∧ c = c' ∧ ∀ q : Int, 0 ≤ q → q ≤ 7 → mv l q = mv l' q
theorem Like.refl {l : List Int} {c : Int} (h : ShOk l c) : Like l c l c := ⟨h, h, rfl, fun _ _ _ => rfl⟩
theorem Like.symm {l l' : List Int} {c c' : Int} (h : Like l c l' c') : Like l' c' l c := ⟨h.2.1, h.1, h.2.2.1.symm, fun q a b => (h.2.2.2 q a b).symm⟩
theorem Like.trans {l l' l'' : List Int} {c c' c'' : Int} (h : Like l c l' c') (g : Like l' c' l'' c'') : Like l c l'' c'' := ⟨h.1, g.2.1, h.2.2.1.trans g.2.2.1, fun q a b => (h.2.2.2 q a b).trans (g.2.2.2 q a b)⟩
theorem Like.map {l l' : List Int} {c c' : Int} (h : Like l c l' c') : mapOf l = mapOf l' := mapOf_congr h.1.1 h.2.1.1 h.2.2.2

/-- What an undo does. -/
theorem undo_put {l : List Int} {c : Int} (h : ShOk l c) {key v : Int} (hk : 0 ≤ key ∧ key ≤ 7) (hv : 0 ≤ v ∧ v ≤ 65535) : ∃ l', undoOne l c 1 key v = (l', c, true) ∧ ShOk l' c ∧ ∀ q, mv l' q = if q = key then v + 1 else mv l q := by
  obtain ⟨l', p1, p2, p3⟩ := put_spec h.1 hk hv
  refine ⟨l', ?_, ⟨p2, h.2⟩, p3⟩
  unfold undoOne
  rw [shelfOk_iff.2 h, undoOk1 hk hv, cond_true, cond_true, show ((1 : Int) == 1) = true from rfl, cond_true, p1]
theorem undo_drop {l : List Int} {c : Int} (h : ShOk l c) {key : Int} (hk : 0 ≤ key ∧ key ≤ 7) : ∃ l', undoOne l c 2 key 0 = (l', c, true) ∧ ShOk l' c ∧ ∀ q, mv l' q = if q = key then 0 else mv l q := by
  obtain ⟨l', p1, p2, p3⟩ := drop_spec h.1 hk
  refine ⟨l', ?_, ⟨p2, h.2⟩, p3⟩
  unfold undoOne
  rw [shelfOk_iff.2 h, undoOk2 hk, cond_true, cond_true, show ((2 : Int) == 1) = false from rfl, cond_false, show ((2 : Int) == 2) = true from rfl, cond_true, p1]
theorem undo_bump {l : List Int} {c : Int} (h : ShOk l c) {v : Int} (hv : 0 ≤ v ∧ v ≤ 65535) : undoOne l c 3 0 v = (l, (c - v + 65536) % 65536, true) ∧ ShOk l ((c - v + 65536) % 65536) := by
  have hc := h.2
  refine ⟨?_, h.1, by omega⟩
  unfold undoOne
  rw [shelfOk_iff.2 h, undoOk3 hv, cond_true, cond_true, show ((3 : Int) == 1) = false from rfl, cond_false, show ((3 : Int) == 2) = false from rfl, cond_false, show ((3 : Int) == 3) = true from rfl, cond_true]
  rw [i64_wrap (n := c - v) (by omega) (by omega), i64_wrap (by omega) (by omega), Int.tmod_eq_emod_of_nonneg (by omega)]
theorem undo_none {l : List Int} {c : Int} (h : ShOk l c) : undoOne l c 0 0 0 = (l, c, true) := by
  unfold undoOne
  rw [shelfOk_iff.2 h, undoOk0]
  rfl
theorem undo_back {l : List Int} {c : Int} (h : ShOk l c) {key old : Int} (hk : 0 ≤ key ∧ key ≤ 7) (ho : 0 ≤ old ∧ old ≤ 65536) :
    undoOk (backV key old).1 (backV key old).2.1 (backV key old).2.2 = true ∧ ∃ l', undoOne l c (backV key old).1 (backV key old).2.1 (backV key old).2.2 = (l', c, true) ∧ ShOk l' c ∧ ∀ q, mv l' q = if q = key then old else mv l q := by
  unfold backV
  by_cases e : old = 0
  · subst e
    exact ⟨undoOk2 hk, undo_drop h hk⟩
  · rw [show (old == 0) = false from beq_eq_false_iff_ne.2 e, cond_false, i64_wrap (n := old - 1) (by omega) (by omega)]
    refine ⟨undoOk1 hk (show 0 ≤ old - 1 ∧ old - 1 ≤ 65535 by omega), ?_⟩
    obtain ⟨l', a, b, d⟩ := undo_put h hk (show 0 ≤ old - 1 ∧ old - 1 ≤ 65535 by omega)
    exact ⟨l', a, b, fun q => by rw [d q, Int.sub_add_cancel]⟩
end X
