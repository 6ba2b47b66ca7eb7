/- Models of the functions, or plain laws about them; each theorem states its own conditions. -/
import Derived.Test.YtnkgcegeinemjaaPlB
import Derived.Test.YtnkgcegeinemjaaMdl2
set_option linter.unusedVariables false
set_option linter.unusedSimpArgs false
open Go.Proofs
namespace X
open PM Go

theorem szHoldS_eq (a : List (List Int)) (left : Int) (h0 : 0 ≤ left) (h1 : left ≤ 1048576) (hb : a.length ≤ maxLen) (k : Int → R) :
    laws_szHoldS std a left k = k (if left - a.length < 0 then -1 else left - a.length) := by
  have hb : a.length ≤ 9223372036854775807 := hb
  have w : IntKind.i64.wrap (left - a.length) = left - a.length := i64_wrap (by omega) (by omega)
  simp only [laws_szHoldS, laws_szHoldS_f, std_sub, std_vlen, w, std_lt]
  by_cases h : left - (a.length : Int) < 0 <;> simp only [h, decide_true, decide_false, cond_true, cond_false, if_true, if_false]
theorem toHoldS_l (kx : List (List Int) → R) (a : List (List Int)) (hb : a.length ≤ 2147483648) (hw : ∀ r ∈ a, r.length = 3) : ∀ (m n i : Nat) (o : List (List Int)), i + m = a.length → m < n → o.length = a.length → o.take i = a.take i →
    laws_toHoldS_l0 std (laws_toHold std) n a i o kx = kx a
  | 0, n + 1, i, o, h, hn, ho, hi => by
    unfold laws_toHoldS_l0
    have e1 : o.take i = o := List.take_of_length_le (by omega)
    have e2 : a.take i = a := List.take_of_length_le (by omega)
    have : o = a := by rw [← e1, ← e2, hi]
    subst this
    have e1 : std.lt (i : Int) (o.length : Int) = false := by rw [lt_nat]; exact decide_eq_false (by omega)
    simp only [std_vlen, e1, cond_false]
  | m + 1, n + 1, i, o, h, hn, ho, hi => by
    unfold laws_toHoldS_l0
    have ih := toHoldS_l kx a hb hw m n (i + 1) (o.set i (a.getD i [])) (by omega) (by omega) (by simpa using ho) (by
      rw [take_set_succ _ _ _ (by omega), take_succ' a [] i (by omega), hi])
    have hrow := row3 (hw _ (getD_mem (d := []) (show i < a.length by omega)))
    have e1 : std.lt (i : Int) (a.length : Int) = true := by rw [lt_nat]; exact decide_eq_true (by omega)
    have e2 : std.inb (i : Int) (a.length : Int) = true := by rw [inb_nat]; exact decide_eq_true (by omega)
    have e3 : std.inb (i : Int) (o.length : Int) = true := by rw [inb_nat]; exact decide_eq_true (by omega)
    simp only [std_vlen, e1, e2, e3, cond_true, laws_toHold, laws_toHold_f, std_vput, std_vget, Int.toNat_natCast, std_add, cast1 i (by omega), hrow]
    exact ih
theorem toHoldS_eq (a : List (List Int)) (hb : a.length ≤ 2147483648) (hw : ∀ r ∈ a, r.length = 3) (kx : List (List Int) → R) : laws_toHoldS std a kx = kx a := by
  unfold laws_toHoldS laws_toHoldS_f
  have e1 : std.mkOk (a.length : Int) = true := by rw [std_mkOk]; exact decide_eq_true (by omega)
  have e2 : std.le (a.length : Int) (a.length : Int) = true := by simp
  simp only [std_vlen, e1, e2, cond_true, std_vzero, Int.toNat_natCast]
  generalize hN : std.fuel = N
  have hN : 4294967296 = N := hN
  exact toHoldS_l (fun o => kx o) a hb hw a.length N 0 (List.replicate a.length (List.replicate 3 0)) (by omega) (by omega) (by simp) (by simp)
theorem eqHold1 (a b c : Int) (k : Bool → R) : laws_eqHold std a b c a b c k = k true := by
  simp only [laws_eqHold, laws_eqHold_f, eq_self, not_true', cond_false]
theorem eqHoldS_l (a : List (List Int)) (hb : a.length ≤ 2147483648) (kret : Bool → R) (kx : Unit → R) : ∀ (m n i : Nat), i + m = a.length → m < n → laws_eqHoldS_l0 std (laws_eqHold std) n a a i kret kx = kx ()
  | 0, n + 1, i, h, hn => by
    unfold laws_eqHoldS_l0
    have e1 : std.lt (i : Int) (a.length : Int) = false := by rw [lt_nat]; exact decide_eq_false (by omega)
    simp only [std_vlen, e1, cond_false]
  | m + 1, n + 1, i, h, hn => by
    unfold laws_eqHoldS_l0
    have ih := eqHoldS_l a hb kret kx m n (i + 1) (by omega) (by omega)
    have e1 : std.lt (i : Int) (a.length : Int) = true := by rw [lt_nat]; exact decide_eq_true (by omega)
    have e2 : std.inb (i : Int) (a.length : Int) = true := by rw [inb_nat]; exact decide_eq_true (by omega)
    simp only [std_vlen, e1, e2, cond_true, eqHold1, not_true', cond_false, std_add, cast1 i (by omega), ih]
theorem eqHoldS1 (a : List (List Int)) (hb : a.length ≤ 2147483648) (k : Bool → R) : laws_eqHoldS std a a k = k true := by
  unfold laws_eqHoldS laws_eqHoldS_f
  simp only [eq_self, not_true', cond_false]
  generalize hN : std.fuel = N
  have hN : 4294967296 = N := hN
  exact eqHoldS_l a hb (fun t => k t) (fun _ => k true) a.length N 0 (by omega) (by omega)
theorem markHoldS_l (kx : Int → List (List Int) → R) : ∀ (m n i : Nat) (k : Int) (o : List (List Int)), i + m = o.length → m < n → o.length ≤ 2147483648 → (∀ r ∈ o, r.length = 3) → -9223372036854775808 ≤ k → k + 3 * m ≤ 9223372036854775807 →
    laws_markHoldS_l0 std n k i o kx = kx (k + 3 * m) (o.take i ++ vups 3 k m)
  | 0, n + 1, i, k, o, h, hn, hb, hw, h1, h2 => by
    unfold laws_markHoldS_l0
    have e1 : std.lt (i : Int) (o.length : Int) = false := by rw [lt_nat]; exact decide_eq_false (by omega)
    have e2 : o.take i = o := List.take_of_length_le (by omega)
    simp only [std_vlen, e1, cond_false, e2, vups, List.append_nil]
    congr 1
    omega
  | m + 1, n + 1, i, k, o, h, hn, hb, hw, h1, h2 => by
    unfold laws_markHoldS_l0
    have hi : i < o.length := by omega
    have e1 : std.lt (i : Int) (o.length : Int) = true := by rw [lt_nat]; exact decide_eq_true (by omega)
    have e2 : std.inb (i : Int) (o.length : Int) = true := by rw [inb_nat]; exact decide_eq_true (by omega)
    have w1 : IntKind.i64.wrap (k + 1) = k + 1 := i64_wrap (by omega) (by omega)
    have w2 : IntKind.i64.wrap (k + 1 + 1) = k + 1 + 1 := i64_wrap (by omega) (by omega)
    have w3 : IntKind.i64.wrap (k + 1 + 1 + 1) = k + 1 + 1 + 1 := i64_wrap (by omega) (by omega)
    have hset := setrow3 (hw _ (getD_mem (d := []) hi)) k
    have ih := markHoldS_l kx m n (i + 1) (k + 1 + 1 + 1) (o.set i (ups k 3)) (by rw [List.length_set]; omega) (by omega) (by rw [List.length_set]; omega) (fun r hr => by
      rcases List.mem_or_eq_of_mem_set hr with hr | hr
      · exact hw r hr
      · rw [hr, ups_length]) (by omega) (by omega)
    rw [take_set_succ _ _ _ hi] at ih
    simp only [std_vlen, std_vset, List.length_set, e1, e2, cond_true, std_add, cast1 i (by omega), w1, w2, w3, Int.toNat_natCast, getD_set_self hi, List.set_set, hset]
    refine ih.trans ?_
    congr 1
    · omega
    · have ek : k + 1 + 1 + 1 = k + ((3 : Nat) : Int) := by omega
      rw [vups, List.append_assoc, ← ek]; rfl
theorem markHoldS_k (a : List (List Int)) (k : Int) (hb : a.length ≤ 2147483648) (hw : ∀ r ∈ a, r.length = 3) (h1 : 0 ≤ k) (h2 : k ≤ 4611686018427387904) (kx : Int → List (List Int) → R) : laws_markHoldS std a k kx = kx (k + 3 * a.length) (vups 3 k a.length) := by
  unfold laws_markHoldS laws_markHoldS_f
  generalize hN : std.fuel = N
  have hN : 4294967296 = N := hN
  exact markHoldS_l (fun k o => kx k o) a.length N 0 k a (by omega) (by omega) hb hw (by omega) (by omega)
theorem szRowS_eq (a : List (List Int)) (left : Int) (h0 : 0 ≤ left) (h1 : left ≤ 1048576) (hb : a.length ≤ maxLen) (k : Int → R) :
    laws_szRowS std a left k = k (if left - a.length < 0 then -1 else left - a.length) := by
  have hb : a.length ≤ 9223372036854775807 := hb
  have w : IntKind.i64.wrap (left - a.length) = left - a.length := i64_wrap (by omega) (by omega)
  simp only [laws_szRowS, laws_szRowS_f, std_sub, std_vlen, w, std_lt]
  by_cases h : left - (a.length : Int) < 0 <;> simp only [h, decide_true, decide_false, cond_true, cond_false, if_true, if_false]
theorem toRowS_l (kx : List (List Int) → R) (a : List (List Int)) (hb : a.length ≤ 2147483648) (hw : ∀ r ∈ a, r.length = 2) : ∀ (m n i : Nat) (o : List (List Int)), i + m = a.length → m < n → o.length = a.length → o.take i = a.take i →
    laws_toRowS_l0 std (laws_toRow std) n a i o kx = kx a
  | 0, n + 1, i, o, h, hn, ho, hi => by
    unfold laws_toRowS_l0
    have e1 : o.take i = o := List.take_of_length_le (by omega)
    have e2 : a.take i = a := List.take_of_length_le (by omega)
    have : o = a := by rw [← e1, ← e2, hi]
    subst this
    have e1 : std.lt (i : Int) (o.length : Int) = false := by rw [lt_nat]; exact decide_eq_false (by omega)
    simp only [std_vlen, e1, cond_false]
  | m + 1, n + 1, i, o, h, hn, ho, hi => by
    unfold laws_toRowS_l0
    have ih := toRowS_l kx a hb hw m n (i + 1) (o.set i (a.getD i [])) (by omega) (by omega) (by simpa using ho) (by
      rw [take_set_succ _ _ _ (by omega), take_succ' a [] i (by omega), hi])
    have hrow := row2 (hw _ (getD_mem (d := []) (show i < a.length by omega)))
    have e1 : std.lt (i : Int) (a.length : Int) = true := by rw [lt_nat]; exact decide_eq_true (by omega)
    have e2 : std.inb (i : Int) (a.length : Int) = true := by rw [inb_nat]; exact decide_eq_true (by omega)
    have e3 : std.inb (i : Int) (o.length : Int) = true := by rw [inb_nat]; exact decide_eq_true (by omega)
    simp only [std_vlen, e1, e2, e3, cond_true, laws_toRow, laws_toRow_f, std_vput, std_vget, Int.toNat_natCast, std_add, cast1 i (by omega), hrow]
    exact ih
theorem toRowS_eq (a : List (List Int)) (hb : a.length ≤ 2147483648) (hw : ∀ r ∈ a, r.length = 2) (kx : List (List Int) → R) : laws_toRowS std a kx = kx a := by
  unfold laws_toRowS laws_toRowS_f
  have e1 : std.mkOk (a.length : Int) = true := by rw [std_mkOk]; exact decide_eq_true (by omega)
  have e2 : std.le (a.length : Int) (a.length : Int) = true := by simp
  simp only [std_vlen, e1, e2, cond_true, std_vzero, Int.toNat_natCast]
  generalize hN : std.fuel = N
  have hN : 4294967296 = N := hN
  exact toRowS_l (fun o => kx o) a hb hw a.length N 0 (List.replicate a.length (List.replicate 2 0)) (by omega) (by omega) (by simp) (by simp)
theorem eqRow1 (a b : Int) (k : Bool → R) : laws_eqRow std a b a b k = k true := by
  simp only [laws_eqRow, laws_eqRow_f, eq_self, not_true', cond_false]
theorem eqRowS_l (a : List (List Int)) (hb : a.length ≤ 2147483648) (kret : Bool → R) (kx : Unit → R) : ∀ (m n i : Nat), i + m = a.length → m < n → laws_eqRowS_l0 std (laws_eqRow std) n a a i kret kx = kx ()
  | 0, n + 1, i, h, hn => by
    unfold laws_eqRowS_l0
    have e1 : std.lt (i : Int) (a.length : Int) = false := by rw [lt_nat]; exact decide_eq_false (by omega)
    simp only [std_vlen, e1, cond_false]
  | m + 1, n + 1, i, h, hn => by
    unfold laws_eqRowS_l0
    have ih := eqRowS_l a hb kret kx m n (i + 1) (by omega) (by omega)
    have e1 : std.lt (i : Int) (a.length : Int) = true := by rw [lt_nat]; exact decide_eq_true (by omega)
    have e2 : std.inb (i : Int) (a.length : Int) = true := by rw [inb_nat]; exact decide_eq_true (by omega)
    simp only [std_vlen, e1, e2, cond_true, eqRow1, not_true', cond_false, std_add, cast1 i (by omega), ih]
theorem eqRowS1 (a : List (List Int)) (hb : a.length ≤ 2147483648) (k : Bool → R) : laws_eqRowS std a a k = k true := by
  unfold laws_eqRowS laws_eqRowS_f
  simp only [eq_self, not_true', cond_false]
  generalize hN : std.fuel = N
  have hN : 4294967296 = N := hN
  exact eqRowS_l a hb (fun t => k t) (fun _ => k true) a.length N 0 (by omega) (by omega)
theorem markRowS_l (kx : Int → List (List Int) → R) : ∀ (m n i : Nat) (k : Int) (o : List (List Int)), i + m = o.length → m < n → o.length ≤ 2147483648 → (∀ r ∈ o, r.length = 2) → -9223372036854775808 ≤ k → k + 2 * m ≤ 9223372036854775807 →
    laws_markRowS_l0 std n k i o kx = kx (k + 2 * m) (o.take i ++ vups 2 k m)
  | 0, n + 1, i, k, o, h, hn, hb, hw, h1, h2 => by
    unfold laws_markRowS_l0
    have e1 : std.lt (i : Int) (o.length : Int) = false := by rw [lt_nat]; exact decide_eq_false (by omega)
    have e2 : o.take i = o := List.take_of_length_le (by omega)
    simp only [std_vlen, e1, cond_false, e2, vups, List.append_nil]
    congr 1
    omega
  | m + 1, n + 1, i, k, o, h, hn, hb, hw, h1, h2 => by
    unfold laws_markRowS_l0
    have hi : i < o.length := by omega
    have e1 : std.lt (i : Int) (o.length : Int) = true := by rw [lt_nat]; exact decide_eq_true (by omega)
    have e2 : std.inb (i : Int) (o.length : Int) = true := by rw [inb_nat]; exact decide_eq_true (by omega)
    have w1 : IntKind.i64.wrap (k + 1) = k + 1 := i64_wrap (by omega) (by omega)
    have w2 : IntKind.i64.wrap (k + 1 + 1) = k + 1 + 1 := i64_wrap (by omega) (by omega)
    have hset := setrow2 (hw _ (getD_mem (d := []) hi)) k
    have ih := markRowS_l kx m n (i + 1) (k + 1 + 1) (o.set i (ups k 2)) (by rw [List.length_set]; omega) (by omega) (by rw [List.length_set]; omega) (fun r hr => by
      rcases List.mem_or_eq_of_mem_set hr with hr | hr
      · exact hw r hr
      · rw [hr, ups_length]) (by omega) (by omega)
    rw [take_set_succ _ _ _ hi] at ih
    simp only [std_vlen, std_vset, List.length_set, e1, e2, cond_true, std_add, cast1 i (by omega), w1, w2, Int.toNat_natCast, getD_set_self hi, List.set_set, hset]
    refine ih.trans ?_
    congr 1
    · omega
    · have ek : k + 1 + 1 = k + ((2 : Nat) : Int) := by omega
      rw [vups, List.append_assoc, ← ek]; rfl
theorem markRowS_k (a : List (List Int)) (k : Int) (hb : a.length ≤ 2147483648) (hw : ∀ r ∈ a, r.length = 2) (h1 : 0 ≤ k) (h2 : k ≤ 4611686018427387904) (kx : Int → List (List Int) → R) : laws_markRowS std a k kx = kx (k + 2 * a.length) (vups 2 k a.length) := by
  unfold laws_markRowS laws_markRowS_f
  generalize hN : std.fuel = N
  have hN : 4294967296 = N := hN
  exact markRowS_l (fun k o => kx k o) a.length N 0 k a (by omega) (by omega) hb hw (by omega) (by omega)
theorem heldRowS_l (kret : Int → R) (kx : Int → R) (a : List (List Int)) (hb : a.length ≤ 2147483648) : ∀ (m n i : Nat) (k : Int), i + m = a.length → m < n → a.drop i = vups 2 k m → -9223372036854775808 ≤ k → k + 2 * m ≤ 9223372036854775807 →
    laws_heldRowS_l0 std n a k i kret kx = kx (k + 2 * m)
  | 0, n + 1, i, k, h, hn, hd, h1, h2 => by
    unfold laws_heldRowS_l0
    have e1 : std.lt (i : Int) (a.length : Int) = false := by rw [lt_nat]; exact decide_eq_false (by omega)
    simp only [std_vlen, e1, cond_false]
    congr 1
    omega
  | m + 1, n + 1, i, k, h, hn, hd, h1, h2 => by
    unfold laws_heldRowS_l0
    rw [drop_cons' a [] i (by omega), vups, List.cons.injEq] at hd
    have e1 : std.lt (i : Int) (a.length : Int) = true := by rw [lt_nat]; exact decide_eq_true (by omega)
    have e2 : std.inb (i : Int) (a.length : Int) = true := by rw [inb_nat]; exact decide_eq_true (by omega)
    have w1 : IntKind.i64.wrap (k + 1) = k + 1 := i64_wrap (by omega) (by omega)
    have w2 : IntKind.i64.wrap (k + 1 + 1) = k + 1 + 1 := i64_wrap (by omega) (by omega)
    have hd0 : (a.getD i []).getD 0 0 = k := by rw [hd.1]; rfl
    have hd1 : (a.getD i []).getD 1 0 = k + 1 := by rw [hd.1]; rfl
    have ih := heldRowS_l kret kx a hb m n (i + 1) (k + 1 + 1) (by omega) (by omega) (by rw [hd.2, show k + 1 + 1 = k + ((2 : Nat) : Int) by omega]) (by omega) (by omega)
    simp only [std_vlen, e1, e2, cond_true, std_vget, Int.toNat_natCast, std_add, cast1 i (by omega), w1, w2, hd0, hd1, eq_self, not_true', cond_false]
    refine ih.trans ?_
    congr 1
    omega
theorem heldRowS_k (m : Nat) (k : Int) (hb : m ≤ 2147483648) (h1 : 0 ≤ k) (h2 : k ≤ 4611686018427387904) (kx : Int → R) : laws_heldRowS std (vups 2 k m) k kx = kx (k + 2 * m) := by
  unfold laws_heldRowS laws_heldRowS_f
  generalize hN : std.fuel = N
  have hN : 4294967296 = N := hN
  exact heldRowS_l (fun t => kx t) (fun k => kx k) (vups 2 k m) (by rw [vups_length]; exact hb) m N 0 k (by rw [vups_length]; omega) (by omega) rfl (by omega) (by omega)

end X
