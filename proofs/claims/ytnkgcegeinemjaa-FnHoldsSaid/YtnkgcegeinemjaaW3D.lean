/- Models of the functions, or plain laws about them; each theorem states its own conditions. -/
import Derived.Test.YtnkgcegeinemjaaW2
set_option linter.unusedVariables false
set_option linter.unusedSimpArgs false
namespace X
/-! The library's DeleteFunc at rows of three numbers. -/
open Classical in
noncomputable def slices_DeleteFunc___impl_Hold_impl_Hold_ (A : PM.Prims) : slices_DeleteFunc___impl_Hold_impl_Hold__T := fun l who k =>
  if (∀ r ∈ l, r.length = 3) ∧ l.length ≤ 2147483648 then k (l.filter fun r => !(r.getD 0 0 == who)) else none
end X
