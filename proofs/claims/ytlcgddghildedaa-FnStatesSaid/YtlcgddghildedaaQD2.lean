/- Models of the functions, or plain laws about them; each theorem states its own conditions. -/
import Derived.Test.YtlcgddghildedaaQD
set_option linter.unusedVariables false
set_option linter.unusedSimpArgs false
open Go.Proofs
namespace X
open PM Go
theorem bt {α : Type} (a b : α) : (bif true then a else b) = a := Eq.trans (id rfl) rfl
theorem bf {α : Type} (a b : α) : (bif false then a else b) = b := Eq.trans (id rfl) rfl
theorem pick_dr (l : List Int) (hl : 0 < l.length ∧ l.length ≤ 100) (b : List Int) (i h : Int) (ha : At b i) : ∃ x i' h', 0 ≤ x ∧ x < (l.length : Int) ∧ At b i' ∧ std.inb x (std.ilen l) = true ∧ ∀ k, spec_l1Below std b i h (std.ilen l) k = k x b i' h' := by
  obtain ⟨x, i', h', p, a, k⟩ := Below_pos b i h (std.ilen l) ha (by rw [std_ilen]; omega)
  rw [std_ilen] at p
  exact ⟨x, i', h', p.1, p.2, a, by rw [std_ilen, std_inb]; exact decide_eq_true p, k⟩
end X
