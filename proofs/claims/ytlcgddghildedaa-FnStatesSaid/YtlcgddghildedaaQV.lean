/- Models of the functions, or plain laws about them; each theorem states its own conditions. -/
import Derived.Test.YtlcgddghildedaaMdl2
import Derived.Test.YtlcgddghildedaaPlH
set_option linter.unusedVariables false
set_option linter.unusedSimpArgs false
open Go.Proofs
namespace X
open PM Go
theorem mem_set2 {α : Type} {l : List α} {i : Nat} {x y : α} (h : y ∈ l.set i x) : y ∈ l ∨ (y = x ∧ i < l.length) := by
  by_cases hi : i < l.length
  · rcases List.mem_or_eq_of_mem_set h with h | h
    · exact .inl h
    · exact .inr ⟨h, hi⟩
  · rw [List.set_eq_of_length_le (by omega)] at h
    exact .inl h
theorem room_s {a b : Nat} (h : a + b ≤ 2147483648) : std.room (a : Int) (b : Int) = true := by rw [std_room]; exact decide_eq_true (by omega)
theorem wrap_1 {t : Int} (h : 0 ≤ t ∧ t ≤ 4194304) : std.add .i64 t 1 = t + 1 := by rw [std_add]; exact i64_wrap (by omega) (by omega)
theorem vset_w {n : Nat} {l : List (List Int)} (h : ∀ r ∈ l, r.length = n) (i : Int) (j : Nat) (x : Int) : ∀ r ∈ std.vset l i j x, r.length = n := by
  intro r hr
  rw [std_vset] at hr
  rcases mem_set2 hr with hr | ⟨rfl, hi⟩
  · exact h r hr
  · rw [List.length_set]
    exact h _ (getD_mem hi)
theorem vset_len (l : List (List Int)) (i : Int) (j : Nat) (x : Int) : (std.vset l i j x).length = l.length := by rw [std_vset, List.length_set]
end X
