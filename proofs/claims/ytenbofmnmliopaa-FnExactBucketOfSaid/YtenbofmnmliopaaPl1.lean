/- Models of the functions, or plain laws about them; each theorem states its own conditions. -/
import Derived.Test.YtenbofmnmliopaaMdl1
import Derived.Test.YtenbofmnmliopaaL3
set_option linter.unusedVariables false
set_option linter.unusedSimpArgs false
open Go.Proofs
namespace X
open PM Go
theorem BucketOf_true (aKey : Int) (b : IntKind.i64.min ≤ aKey ∧ aKey ≤ IntKind.i64.max) (k : Bool → R) : laws_FnExactBucketOf std aKey k = k true := by
  simp [laws_FnExactBucketOf, laws_FnExactBucketOf_f, spec_BucketOf, spec_BucketOf_f, impl_BucketOf, impl_BucketOf_f, spec_l15Key, spec_l15Key_f, spec_l1In, spec_l1In_f, impl_isKey, impl_isKey_f, impl_within, impl_within_f]
  by_cases h1 : 0 ≤ aKey <;> by_cases h2 : aKey ≤ 7 <;> simp [h1, h2, Int.mul_comm]
end X
