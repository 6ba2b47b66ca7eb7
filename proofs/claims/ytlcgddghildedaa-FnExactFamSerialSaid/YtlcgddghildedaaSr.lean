/- Models of the functions, or plain laws about them; each theorem states its own conditions. -/
import Derived.Test.YtlcgddghildedaaMdl2
set_option linter.unusedVariables false
set_option linter.unusedSimpArgs false
open Go.Proofs
namespace X
open PM Go
/-! What serial does on a kid's code: its runs. -/
def opG (code : List (List Int)) (i j : Nat) : Int := (code.getD i []).getD j 0
abbrev St := List (Nat × List Int × List Int)
inductive Run (code : List (List Int)) (c0 : List Int) : Nat → List Int → List Int → St → Int × List Int × List Int → Prop
  | stop {i : Nat} {R C : List Int} {st : St} : code.length ≤ i → Run code c0 i R C st (1, R, C)
  | calc_ {i : Nat} {R C R' : List Int} {st : St} {t : Bool} {fin : Int × List Int × List Int} : i < code.length → 1 ≤ opG code i 0 → opG code i 0 ≤ 4 → (∀ k, impl_Calc std (opG code i 0) (opG code i 1) (opG code i 2) (opG code i 3) R k = k R' t) → R'.length = R.length → Run code c0 (i + 1) R' C st fin → Run code c0 i R C st fin
  | read {i x y : Nat} {R C : List Int} {st : St} {fin : Int × List Int × List Int} : i < code.length → opG code i 0 = 5 → opG code i 1 = (x : Int) → x < R.length → opG code i 2 = (y : Int) → y < C.length → Run code c0 (i + 1) (R.set x (C.getD y 0)) C st fin → Run code c0 i R C st fin
  | write {i x y : Nat} {R C : List Int} {st : St} {fin : Int × List Int × List Int} : i < code.length → opG code i 0 = 6 → opG code i 1 = (x : Int) → x < C.length → opG code i 2 = (y : Int) → y < R.length → Run code c0 (i + 1) R (C.set x (R.getD y 0)) st fin → Run code c0 i R C st fin
  | skip {i x y : Nat} {R C : List Int} {st : St} {fin : Int × List Int × List Int} : i < code.length → opG code i 0 = 7 → opG code i 1 = (x : Int) → x < R.length → opG code i 2 = (y : Int) → y ≤ 1000 → Run code c0 (if R.getD x 0 = 0 then i + y + 1 else i + 1) R C st fin → Run code c0 i R C st fin
  | begin_ {i : Nat} {R C : List Int} {st : St} {fin : Int × List Int × List Int} : i < code.length → opG code i 0 = 8 → Run code c0 (i + 1) R C ((i, R, C) :: st) fin → Run code c0 i R C st fin
  | end_ {i a x : Nat} {R C r c : List Int} {st : St} {fin : Int × List Int × List Int} : i < code.length → opG code i 0 = 9 → a < code.length → opG code a 1 = (x : Int) → x < R.length → Run code c0 (i + 1) (R.set x 1) C st fin → Run code c0 i R C ((a, r, c) :: st) fin
  | abort0 {i : Nat} {R C : List Int} : i < code.length → opG code i 0 = 10 → Run code c0 i R C [] (2, R, c0)
  | abort {i a x z : Nat} {R C r c : List Int} {st : St} {fin : Int × List Int × List Int} : i < code.length → opG code i 0 = 10 → a < code.length → opG code a 1 = (x : Int) → x < r.length → (∀ k, impl_EndOf std code (a : Int) k = k (z : Int)) → i ≤ z → z ≤ 1000 → Run code c0 (z + 1) (r.set x 0) c st fin → Run code c0 i R C ((a, r, c) :: st) fin
end X
