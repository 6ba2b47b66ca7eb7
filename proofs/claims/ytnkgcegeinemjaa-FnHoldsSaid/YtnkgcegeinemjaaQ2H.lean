/- Models of the functions, or plain laws about them; each theorem states its own conditions. -/
import Derived.Test.YtnkgcegeinemjaaQ2
set_option linter.unusedVariables false
set_option linter.unusedSimpArgs false
open Go.Proofs
namespace X
open PM Go
theorem heldHoldS_l (kret : Int → R) (kx : Int → R) (a : List (List Int)) (hb : a.length ≤ 2147483648) : ∀ (m n i : Nat) (k : Int), i + m = a.length → m < n → a.drop i = vups 3 k m → -9223372036854775808 ≤ k → k + 3 * m ≤ 9223372036854775807 →
    laws_heldHoldS_l0 std n a k i kret kx = kx (k + 3 * m)
  | 0, n + 1, i, k, h, hn, hd, h1, h2 => by
    unfold laws_heldHoldS_l0
    have e1 : std.lt (i : Int) (a.length : Int) = false := by rw [lt_nat]; exact decide_eq_false (by omega)
    simp only [std_vlen, e1, cond_false]
    congr 1
    omega
  | m + 1, n + 1, i, k, h, hn, hd, h1, h2 => by
    unfold laws_heldHoldS_l0
    rw [drop_cons' a [] i (by omega), vups, List.cons.injEq] at hd
    have e1 : std.lt (i : Int) (a.length : Int) = true := by rw [lt_nat]; exact decide_eq_true (by omega)
    have e2 : std.inb (i : Int) (a.length : Int) = true := by rw [inb_nat]; exact decide_eq_true (by omega)
    have w1 : IntKind.i64.wrap (k + 1) = k + 1 := i64_wrap (by omega) (by omega)
    have w2 : IntKind.i64.wrap (k + 1 + 1) = k + 1 + 1 := i64_wrap (by omega) (by omega)
    have w3 : IntKind.i64.wrap (k + 1 + 1 + 1) = k + 1 + 1 + 1 := i64_wrap (by omega) (by omega)
    have hd0 : (a.getD i []).getD 0 0 = k := by rw [hd.1]; rfl
    have hd1 : (a.getD i []).getD 1 0 = k + 1 := by rw [hd.1]; rfl
    have hd2 : (a.getD i []).getD 2 0 = k + 1 + 1 := by rw [hd.1]; rfl
    have ih := heldHoldS_l kret kx a hb m n (i + 1) (k + 1 + 1 + 1) (by omega) (by omega) (by rw [hd.2, show k + 1 + 1 + 1 = k + ((3 : Nat) : Int) by omega]) (by omega) (by omega)
    simp only [std_vlen, e1, e2, cond_true, std_vget, Int.toNat_natCast, std_add, cast1 i (by omega), w1, w2, w3, hd0, hd1, hd2, eq_self, not_true', cond_false]
    refine ih.trans ?_
    congr 1
    omega
theorem heldHoldS_k (m : Nat) (k : Int) (hb : m ≤ 2147483648) (h1 : 0 ≤ k) (h2 : k ≤ 4611686018427387904) (kx : Int → R) : laws_heldHoldS std (vups 3 k m) k kx = kx (k + 3 * m) := by
  unfold laws_heldHoldS laws_heldHoldS_f
  generalize hN : std.fuel = N
  have hN : 4294967296 = N := hN
  exact heldHoldS_l (fun t => kx t) (fun k => kx k) (vups 3 k m) (by rw [vups_length]; exact hb) m N 0 k (by rw [vups_length]; omega) (by omega) rfl (by omega) (by omega)

end X
