/- Models of the functions, or plain laws about them; each theorem states its own conditions. -/
import Derived.Test.YtlcgddghildedaaPlC
set_option linter.unusedVariables false
set_option linter.unusedSimpArgs false

namespace X
open PM Go

theorem sorted_ext : ∀ {a b : List Int}, a.Pairwise (· < ·) → b.Pairwise (· < ·) → (∀ x, x ∈ a ↔ x ∈ b) → a = b
  | [], [], _, _, _ => rfl
  | [], y :: b, _, _, h => by
    have := (h y).2 (by simp)
    cases this
  | x :: a, [], _, _, h => by
    have := (h x).1 (by simp)
    cases this
  | x :: a, y :: b, ha, hb, h => by
    have hx := List.pairwise_cons.1 ha
    have hy := List.pairwise_cons.1 hb
    have e : x = y := by
      have h1 := (h x).1 (by simp)
      have h2 := (h y).2 (by simp)
      rcases List.mem_cons.1 h1 with h1 | h1
      · exact h1
      · rcases List.mem_cons.1 h2 with h2 | h2
        · exact h2.symm
        · have := hy.1 x h1
          have := hx.1 y h2
          omega
    subst e
    rw [sorted_ext hx.2 hy.2 fun z => ?_]
    constructor
    · intro hz
      have := (h z).1 (by simp [hz])
      rcases List.mem_cons.1 this with r | r
      · have := hx.1 z hz
        omega
      · exact r
    · intro hz
      have := (h z).2 (by simp [hz])
      rcases List.mem_cons.1 this with r | r
      · have := hy.1 z hz
        omega
      · exact r
theorem pairwise_snoc {a : List Int} {x : Int} (h : a.Pairwise (· < ·)) (hx : ∀ y ∈ a, y < x) : (a ++ [x]).Pairwise (· < ·) := by
  rw [List.pairwise_append]
  exact ⟨h, List.pairwise_singleton _ _, fun y hy z hz => by rw [List.mem_singleton] at hz; subst hz; exact hx y hy⟩
end X
