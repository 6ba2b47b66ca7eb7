/- Models of the functions, or plain laws about them; each theorem states its own conditions. -/
import Derived.Test.YtnkgcegeinemjaaPlB
import Derived.Test.YtnkgcegeinemjaaMdl2
set_option linter.unusedVariables false
set_option linter.unusedSimpArgs false
open Go.Proofs
namespace X
open PM Go

theorem eqIntS_l (a b : List Int) (hl : a.length = b.length) (hb : a.length ≤ 4294967295) (kret : Bool → R) (kx : Unit → R) : ∀ (m n i : Nat), i + m = a.length → m < n →
    laws_eqIntS_l0 std n a b i kret kx = if a.drop i = b.drop i then kx () else kret false
  | 0, n + 1, i, h, hn => by
    unfold laws_eqIntS_l0
    have e1 : a.drop i = [] := List.drop_eq_nil_of_le (by omega)
    have e2 : b.drop i = [] := List.drop_eq_nil_of_le (by omega)
    simp [e1, e2, show ¬ i < a.length by omega]
  | m + 1, n + 1, i, h, hn => by
    unfold laws_eqIntS_l0
    have ih := eqIntS_l a b hl hb kret kx m n (i + 1) (by omega) (by omega)
    rw [drop_cons' a 0 i (by omega), drop_cons' b 0 i (by omega)]
    simp only [std_ilen, inb_nat, lt_nat, show i < a.length by omega, show i < b.length by omega, decide_true, cond_true, std_eq, std_not, std_iget, Int.toNat_natCast, std_add, cast1 i (by omega), ih, List.cons.injEq]
    by_cases hc : a.getD i 0 = b.getD i 0
    · simp only [hc, beq_self_eq_true, Bool.not_true, cond_false, true_and]
    · simp only [hc, beq_eq_false_iff_ne.2 hc, Bool.not_false, cond_true, false_and, if_false]
theorem eqIntS_eq (a b : List Int) (hb : a.length ≤ 4294967295) (k : Bool → R) : laws_eqIntS std a b k = k (decide (a = b)) := by
  unfold laws_eqIntS laws_eqIntS_f
  by_cases hl : a.length = b.length
  · have := eqIntS_l a b hl hb (fun t => k t) (fun _ => k true) a.length std.fuel 0 (by omega) (by rw [std_fuel]; omega)
    simp only [std_ilen, std_eq, std_not, hl, beq_self_eq_true, Bool.not_true, cond_false]
    refine this.trans ?_
    by_cases hc : a = b <;> simp [hc]
  · have h2 : a ≠ b := fun e => hl (by rw [e])
    have h3 : ((a.length : Int) == (b.length : Int)) = false := by simpa using fun e => hl (by omega)
    simp [h3, h2]

theorem markIntS_l (kx : Int → List Int → R) : ∀ (m n i : Nat) (k : Int) (o : List Int), i + m = o.length → m < n → o.length ≤ 4294967295 → -9223372036854775808 ≤ k → k + m ≤ 9223372036854775807 →
    laws_markIntS_l0 std n k i o kx = kx (k + m) (o.take i ++ ups k m)
  | 0, n + 1, i, k, o, h, hn, hb, h1, h2 => by
    unfold laws_markIntS_l0
    have e1 : o.take i = o := List.take_of_length_le (by omega)
    simp [e1, show ¬ i < o.length by omega, ups]
  | m + 1, n + 1, i, k, o, h, hn, hb, h1, h2 => by
    unfold laws_markIntS_l0
    have ih := markIntS_l kx m n (i + 1) (k + 1) (o.set i k) (by simp; omega) (by omega) (by simpa using hb) (by omega) (by omega)
    have e1 := take_set_succ o k i (by omega)
    simp only [std_ilen, inb_nat, lt_nat, show i < o.length by omega, decide_true, cond_true, std_iset, Int.toNat_natCast, std_add, cast1 i (by omega), i64_wrap (n := k + 1) (by omega) (by omega), ih, e1, ups]
    congr 1
    · omega
    · simp
theorem markIntS_eq (a : List Int) (k : Int) (hb : a.length ≤ 4294967295) (h1 : -9223372036854775808 ≤ k) (h2 : k + a.length ≤ 9223372036854775807) (kx : Int → List Int → R) :
    laws_markIntS std a k kx = kx (k + a.length) (ups k a.length) := by
  unfold laws_markIntS laws_markIntS_f
  have := markIntS_l (fun k o => kx k o) a.length std.fuel 0 k a (by omega) (by rw [std_fuel]; omega) hb h1 h2
  refine this.trans ?_
  simp
theorem heldIntS_l (kret : Int → R) (kx : Int → R) (a : List Int) (hb : a.length ≤ 4294967295) : ∀ (m n i : Nat) (k : Int), i + m = a.length → m < n → a.drop i = ups k m → -9223372036854775808 ≤ k → k + m ≤ 9223372036854775807 →
    laws_heldIntS_l0 std n a k i kret kx = kx (k + m)
  | 0, n + 1, i, k, h, hn, hd, h1, h2 => by
    unfold laws_heldIntS_l0
    simp [show ¬ i < a.length by omega]
  | m + 1, n + 1, i, k, h, hn, hd, h1, h2 => by
    unfold laws_heldIntS_l0
    rw [drop_cons' a 0 i (by omega), ups, List.cons.injEq] at hd
    have ih := heldIntS_l kret kx a hb m n (i + 1) (k + 1) (by omega) (by omega) hd.2 (by omega) (by omega)
    simp only [std_ilen, inb_nat, lt_nat, show i < a.length by omega, decide_true, cond_true, std_iget, Int.toNat_natCast, std_add, cast1 i (by omega), i64_wrap (n := k + 1) (by omega) (by omega), ih, std_eq, std_not, hd.1, beq_self_eq_true, Bool.not_true, cond_false]
    congr 1
    omega
theorem heldIntS_eq (k : Int) (m : Nat) (hb : m ≤ 4294967295) (h1 : -9223372036854775808 ≤ k) (h2 : k + m ≤ 9223372036854775807) (kx : Int → R) :
    laws_heldIntS std (ups k m) k kx = kx (k + m) := by
  unfold laws_heldIntS laws_heldIntS_f
  exact heldIntS_l (fun t => kx t) (fun k => kx k) (ups k m) (by rw [ups_length]; exact hb) m std.fuel 0 k (by rw [ups_length]; omega) (by rw [std_fuel]; omega) rfl h1 h2

theorem toIntS_l (kx : List Int → R) (a : List Int) (hb : a.length ≤ 2147483648) : ∀ (m n i : Nat) (o : List Int), i + m = a.length → m < n → o.length = a.length → o.take i = a.take i →
    laws_toIntS_l0 std n a i o kx = kx a
  | 0, n + 1, i, o, h, hn, ho, hi => by
    unfold laws_toIntS_l0
    have e1 : o.take i = o := List.take_of_length_le (by omega)
    have e2 : a.take i = a := List.take_of_length_le (by omega)
    have : o = a := by rw [← e1, ← e2, hi]
    subst this
    simp [show ¬ i < o.length by omega]
  | m + 1, n + 1, i, o, h, hn, ho, hi => by
    unfold laws_toIntS_l0
    have ih := toIntS_l kx a hb m n (i + 1) (o.set i (a.getD i 0)) (by omega) (by omega) (by simpa using ho) (by
      rw [take_set_succ _ _ _ (by omega), take_succ' a 0 i (by omega), hi])
    simp only [std_ilen, inb_nat, lt_nat, show i < a.length by omega, show i < o.length by omega, decide_true, cond_true, std_iset, std_iget, Int.toNat_natCast, std_add, cast1 i (by omega), ih]
theorem toIntS_eq (a : List Int) (hb : a.length ≤ 2147483648) (kx : List Int → R) : laws_toIntS std a kx = kx a := by
  unfold laws_toIntS laws_toIntS_f
  have := toIntS_l (fun o => kx o) a hb a.length std.fuel 0 (List.replicate a.length 0) (by omega) (by rw [std_fuel]; omega) (by simp) (by simp)
  have e1 : std.mkOk (a.length : Int) = true := by simp; omega
  have e2 : std.le (a.length : Int) (a.length : Int) = true := by simp
  simp only [std_ilen, e1, e2, cond_true, std_izero, Int.toNat_natCast]
  exact this
theorem mark1 (a : List Int) (h : a.length ≤ 2147483648) (k : Int → List Int → R) : laws_markIntS std a 1 k = k (1 + a.length) (ups 1 a.length) :=
  markIntS_eq a 1 (by omega) (by omega) (by omega) k
theorem held1 (m : Nat) (h : m ≤ 2147483648) (k : Int → R) : laws_heldIntS std (ups 1 m) 1 k = k (1 + m) :=
  heldIntS_eq 1 m (by omega) (by omega) (by omega) k
theorem eqInt1 (a : List Int) (h : a.length ≤ 2147483648) (k : Bool → R) : laws_eqIntS std a a k = k true := by
  rw [eqIntS_eq a a (by omega)]; simp
theorem markInt_k (a : List Int) (m : Nat) (h : a.length ≤ 2147483648) (hm : m ≤ 2147483648) (k : Int → List Int → R) : laws_markIntS std a (1 + (m : Int)) k = k (1 + (m : Int) + a.length) (ups (1 + (m : Int)) a.length) :=
  markIntS_eq a (1 + (m : Int)) (by omega) (by omega) (by omega) k
theorem heldInt_k (n m : Nat) (h : n ≤ 2147483648) (hm : m ≤ 2147483648) (k : Int → R) : laws_heldIntS std (ups (1 + (m : Int)) n) (1 + (m : Int)) k = k (1 + (m : Int) + n) :=
  heldIntS_eq (1 + (m : Int)) n (by omega) (by omega) (by omega) k
end X
