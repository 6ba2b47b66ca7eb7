/- Models of the functions, or plain laws about them; each theorem states its own conditions. -/
import Derived.Test.YtlcgddghildedaaMdl2
import Derived.Test.YtlcgddghildedaaQN1
set_option linter.unusedVariables false
set_option linter.unusedSimpArgs false
open Go.Proofs
namespace X
open PM Go
/-! ## Searches with a predicate -/
theorem loop_any {p : Nat → Bool} {len : Nat} {F : Nat → Int → R} {k : Bool → R} {N : Nat} (hN : len < N)
    (hs : ∀ n i : Nat, i < len → F (n + 1) (i : Int) = bif p i then k (std.le 0 (i : Int)) else F n ((i + 1 : Nat) : Int)) (he : ∀ n, F (n + 1) (len : Int) = k (std.le 0 (-1))) :
    F N 0 = k (!allB (fun i => !p i) len) := by
  have key : ∀ m N i : Nat, i + m = len → m < N → F N (i : Int) = k (!allF (fun i => !p i) m i) := by
    intro m
    induction m with
    | zero =>
      intro N i h hn
      obtain ⟨N, rfl⟩ : ∃ q, N = q + 1 := ⟨N - 1, by omega⟩
      have : i = len := by omega
      subst this
      rw [he]; rfl
    | succ m ih =>
      intro N i h hn
      obtain ⟨N, rfl⟩ : ∃ q, N = q + 1 := ⟨N - 1, by omega⟩
      rw [hs N i (by omega), ih N (i + 1) (by omega) (by omega), show allF (fun i => !p i) (m + 1) i = bif !p i then allF (fun i => !p i) m (i + 1) else false from rfl]
      have e : std.le 0 (i : Int) = true := by rw [std_le]; exact decide_eq_true (by omega)
      rw [e]
      cases p i <;> rfl
  exact key len N 0 (by omega) hN
theorem neg_all (p : Nat → Bool) (n : Nat) : std.not (!allB (fun i => !(std.not (p i))) n) = allB p n := by
  have : (fun i => !(std.not (p i))) = p := by funext i; cases p i <;> rfl
  rw [this, std_not, Bool.not_not]
theorem bsame (x : Bool) : std.not (std.beq x x) = false := by cases x <;> rfl
theorem wd {n : Nat} {t : TypeId} {l : List (List Int)} (f : FitArr cx (.vecs t n l)) : ∀ r ∈ l, r.length = n := fun r hr => (f.2 r hr).1
end X
