/- Models of the functions, or plain laws about them; each theorem states its own conditions. -/
import Derived.Test.YtlcgddghildedaaPlB
import Derived.Test.YtlcgddghildedaaMdl2
set_option linter.unusedVariables false
set_option linter.unusedSimpArgs false
open Go.Proofs
namespace X
open PM Go
theorem markRowS_l (kx : Int → List (List Int) → R) : ∀ (m n i : Nat) (k : Int) (o : List (List Int)), i + m = o.length → m < n → o.length ≤ 2147483648 → (∀ r ∈ o, r.length = 2) → -9223372036854775808 ≤ k → k + 2 * m ≤ 9223372036854775807 →
    laws_markRowS_l0 std n k i o kx = kx (k + 2 * m) (o.take i ++ vups 2 k m)
  | 0, n + 1, i, k, o, h, hn, hb, hw, h1, h2 => by
    unfold laws_markRowS_l0
    have e1 : std.lt (i : Int) (o.length : Int) = false := by rw [lt_nat]; exact decide_eq_false (by omega)
    have e2 : o.take i = o := List.take_of_length_le (by omega)
    simp only [std_vlen, e1, cond_false, e2, vups, List.append_nil]
    congr 1
    omega
  | m + 1, n + 1, i, k, o, h, hn, hb, hw, h1, h2 => by
    unfold laws_markRowS_l0
    have hi : i < o.length := by omega
    have e1 : std.lt (i : Int) (o.length : Int) = true := by rw [lt_nat]; exact decide_eq_true (by omega)
    have e2 : std.inb (i : Int) (o.length : Int) = true := by rw [inb_nat]; exact decide_eq_true (by omega)
    have w1 : IntKind.i64.wrap (k + 1) = k + 1 := i64_wrap (by omega) (by omega)
    have w2 : IntKind.i64.wrap (k + 1 + 1) = k + 1 + 1 := i64_wrap (by omega) (by omega)
    have hset := setrow2 (hw _ (getD_mem (d := []) hi)) k
    have ih := markRowS_l kx m n (i + 1) (k + 1 + 1) (o.set i (ups k 2)) (by rw [List.length_set]; omega) (by omega) (by rw [List.length_set]; omega) (fun r hr => by
      rcases List.mem_or_eq_of_mem_set hr with hr | hr
      · exact hw r hr
      · rw [hr, ups_length]) (by omega) (by omega)
    rw [take_set_succ _ _ _ hi] at ih
    simp only [std_vlen, std_vset, List.length_set, e1, e2, cond_true, std_add, cast1 i (by omega), w1, w2, Int.toNat_natCast, getD_set_self hi, List.set_set, hset]
    refine ih.trans ?_
    congr 1
    · omega
    · have ek : k + 1 + 1 = k + ((2 : Nat) : Int) := by omega
      rw [vups, List.append_assoc, ← ek]; rfl
theorem markRowS_k (a : List (List Int)) (k : Int) (hb : a.length ≤ 2147483648) (hw : ∀ r ∈ a, r.length = 2) (h1 : 0 ≤ k) (h2 : k ≤ 4611686018427387904) (kx : Int → List (List Int) → R) : laws_markRowS std a k kx = kx (k + 2 * a.length) (vups 2 k a.length) := by
  unfold laws_markRowS laws_markRowS_f
  generalize hN : std.fuel = N
  have hN : 4294967296 = N := hN
  exact markRowS_l (fun k o => kx k o) a.length N 0 k a (by omega) (by omega) hb hw (by omega) (by omega)
theorem heldRowS_l (kret : Int → R) (kx : Int → R) (a : List (List Int)) (hb : a.length ≤ 2147483648) : ∀ (m n i : Nat) (k : Int), i + m = a.length → m < n → a.drop i = vups 2 k m → -9223372036854775808 ≤ k → k + 2 * m ≤ 9223372036854775807 →
    laws_heldRowS_l0 std n a k i kret kx = kx (k + 2 * m)
  | 0, n + 1, i, k, h, hn, hd, h1, h2 => by
    unfold laws_heldRowS_l0
    have e1 : std.lt (i : Int) (a.length : Int) = false := by rw [lt_nat]; exact decide_eq_false (by omega)
    simp only [std_vlen, e1, cond_false]
    congr 1
    omega
  | m + 1, n + 1, i, k, h, hn, hd, h1, h2 => by
    unfold laws_heldRowS_l0
    rw [drop_cons' a [] i (by omega), vups, List.cons.injEq] at hd
    have e1 : std.lt (i : Int) (a.length : Int) = true := by rw [lt_nat]; exact decide_eq_true (by omega)
    have e2 : std.inb (i : Int) (a.length : Int) = true := by rw [inb_nat]; exact decide_eq_true (by omega)
    have w1 : IntKind.i64.wrap (k + 1) = k + 1 := i64_wrap (by omega) (by omega)
    have w2 : IntKind.i64.wrap (k + 1 + 1) = k + 1 + 1 := i64_wrap (by omega) (by omega)
    have hd0 : (a.getD i []).getD 0 0 = k := by rw [hd.1]; rfl
    have hd1 : (a.getD i []).getD 1 0 = k + 1 := by rw [hd.1]; rfl
    have ih := heldRowS_l kret kx a hb m n (i + 1) (k + 1 + 1) (by omega) (by omega) (by rw [hd.2, show k + 1 + 1 = k + ((2 : Nat) : Int) by omega]) (by omega) (by omega)
    simp only [std_vlen, e1, e2, cond_true, std_vget, Int.toNat_natCast, std_add, cast1 i (by omega), w1, w2, hd0, hd1, eq_self, not_true', cond_false]
    refine ih.trans ?_
    congr 1
    omega
theorem heldRowS_k (m : Nat) (k : Int) (hb : m ≤ 2147483648) (h1 : 0 ≤ k) (h2 : k ≤ 4611686018427387904) (kx : Int → R) : laws_heldRowS std (vups 2 k m) k kx = kx (k + 2 * m) := by
  unfold laws_heldRowS laws_heldRowS_f
  generalize hN : std.fuel = N
  have hN : 4294967296 = N := hN
  exact heldRowS_l (fun t => kx t) (fun k => kx k) (vups 2 k m) (by rw [vups_length]; exact hb) m N 0 k (by rw [vups_length]; omega) (by omega) rfl (by omega) (by omega)

end X
