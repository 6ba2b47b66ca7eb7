/- Models of the functions, or plain laws about them; each theorem states its own conditions. -/
import Derived.Test.YtlcgddghildedaaMdl2
import Derived.Test.YtlcgddghildedaaNMF
set_option linter.unusedVariables false
set_option linter.unusedSimpArgs false
open Go.Proofs
namespace X
open PM Go
/-! ## What the marks count -/
theorem IntS_c (rows : List (List C)) : laws_markIntS_c rows = rows.length := by
  unfold laws_markIntS_c
  generalize rows.length = n
  induction n with
  | zero => rfl
  | succ n ih => exact congrArg (· + 1) ih
theorem RowS_c (rows : List (List C)) : laws_markRowS_c rows = rows.length * 2 := by
  unfold laws_markRowS_c
  generalize rows.length = n
  induction n with
  | zero => rfl
  | succ n ih => rw [Nat.add_mul]; exact congrArg (· + 2) ih
theorem rsi_len (a : List (List C)) (i : Int) (j : Nat) : (asRows (cOf a i.toNat j)).length = (std.rsi a i j).length := by rw [std_rsi, List.length_map]
theorem rsv_len (n : Nat) (a : List (List C)) (i : Int) (j : Nat) : (asRows (cOf a i.toNat j)).length = (std.rsv n a i j).length := by rw [std_rsv, List.length_map]
end X
