/- Models of the functions, or plain laws about them; each theorem states its own conditions. -/
import Derived.Test.YtlcgddghildedaaQN1
import Derived.Test.YtlcgddghildedaaPlB
import Derived.Test.YtlcgddghildedaaMdl2
set_option linter.unusedVariables false
set_option linter.unusedSimpArgs false
open Go.Proofs
namespace X
open PM Go
/-! ## Numbers that mark, and loops that carry a value -/
theorem markIntS_l (kx : Int → List Int → R) : ∀ (m n i : Nat) (k : Int) (o : List Int), i + m = o.length → m < n → o.length ≤ 4294967295 → -9223372036854775808 ≤ k → k + m ≤ 9223372036854775807 →
    laws_markIntS_l0 std n k i o kx = kx (k + m) (o.take i ++ ups k m)
  | 0, n + 1, i, k, o, h, hn, hb, h1, h2 => by
    unfold laws_markIntS_l0
    have e1 : o.take i = o := List.take_of_length_le (by omega)
    simp [e1, show ¬ i < o.length by omega, ups]
  | m + 1, n + 1, i, k, o, h, hn, hb, h1, h2 => by
    unfold laws_markIntS_l0
    have ih := markIntS_l kx m n (i + 1) (k + 1) (o.set i k) (by simp; omega) (by omega) (by simpa using hb) (by omega) (by omega)
    have e1 := take_set_succ o k i (by omega)
    simp only [std_ilen, inb_nat, lt_nat, show i < o.length by omega, decide_true, cond_true, std_iset, Int.toNat_natCast, std_add, cast1 i (by omega), i64_wrap (n := k + 1) (by omega) (by omega), ih, e1, ups]
    congr 1
    · omega
    · simp
theorem markIntS_eq (a : List Int) (k : Int) (hb : a.length ≤ 4294967295) (h1 : -9223372036854775808 ≤ k) (h2 : k + a.length ≤ 9223372036854775807) (kx : Int → List Int → R) :
    laws_markIntS std a k kx = kx (k + a.length) (ups k a.length) := by
  unfold laws_markIntS laws_markIntS_f
  have := markIntS_l (fun k o => kx k o) a.length std.fuel 0 k a (by omega) (by rw [std_fuel]; omega) hb h1 h2
  refine this.trans ?_
  simp
theorem heldIntS_l (kret : Int → R) (kx : Int → R) (a : List Int) (hb : a.length ≤ 4294967295) : ∀ (m n i : Nat) (k : Int), i + m = a.length → m < n → a.drop i = ups k m → -9223372036854775808 ≤ k → k + m ≤ 9223372036854775807 →
    laws_heldIntS_l0 std n a k i kret kx = kx (k + m)
  | 0, n + 1, i, k, h, hn, hd, h1, h2 => by
    unfold laws_heldIntS_l0
    simp [show ¬ i < a.length by omega]
  | m + 1, n + 1, i, k, h, hn, hd, h1, h2 => by
    unfold laws_heldIntS_l0
    rw [drop_cons' a 0 i (by omega), ups, List.cons.injEq] at hd
    have ih := heldIntS_l kret kx a hb m n (i + 1) (k + 1) (by omega) (by omega) hd.2 (by omega) (by omega)
    simp only [std_ilen, inb_nat, lt_nat, show i < a.length by omega, decide_true, cond_true, std_iget, Int.toNat_natCast, std_add, cast1 i (by omega), i64_wrap (n := k + 1) (by omega) (by omega), ih, std_eq, std_not, hd.1, beq_self_eq_true, Bool.not_true, cond_false]
    congr 1
    omega
theorem heldIntS_eq (k : Int) (m : Nat) (hb : m ≤ 4294967295) (h1 : -9223372036854775808 ≤ k) (h2 : k + m ≤ 9223372036854775807) (kx : Int → R) :
    laws_heldIntS std (ups k m) k kx = kx (k + m) := by
  unfold laws_heldIntS laws_heldIntS_f
  exact heldIntS_l (fun t => kx t) (fun k => kx k) (ups k m) (by rw [ups_length]; exact hb) m std.fuel 0 k (by rw [ups_length]; omega) (by rw [std_fuel]; omega) rfl h1 h2

/-- A loop that carries a value. -/
def foldN {α : Type} (g : Nat → α → α) : Nat → Nat → α → α
  | 0, _, o => o
  | m + 1, i, o => foldN g m (i + 1) (g i o)
theorem foldN_P {α : Type} {g : Nat → α → α} {P : α → Prop} {len : Nat} (hP : ∀ i o, i < len → P o → P (g i o)) : ∀ (m i : Nat) (o : α), i + m = len → P o → P (foldN g m i o)
  | 0, _, _, _, h => h
  | m + 1, i, o, e, h => foldN_P hP m (i + 1) (g i o) (by omega) (hP i o (by omega) h)
theorem loop_fo {α : Type} {P : α → Prop} {g : Nat → α → α} {len N : Nat} {F : Nat → Int → α → R} {k : α → R} (hN : len < N) (hs : ∀ (n i : Nat) (o : α), i < len → P o → F (n + 1) (i : Int) o = F n ((i + 1 : Nat) : Int) (g i o))
    (hP : ∀ i o, i < len → P o → P (g i o)) (he : ∀ (n : Nat) (o : α), P o → F (n + 1) (len : Int) o = k o) {o : α} (ho : P o) : F N 0 o = k (foldN g len 0 o) := by
  have key : ∀ (m N i : Nat) (o : α), i + m = len → m < N → P o → F N (i : Int) o = k (foldN g m i o) := by
    intro m
    induction m with
    | zero =>
      intro N i o h hn hp
      obtain ⟨N, rfl⟩ : ∃ q, N = q + 1 := ⟨N - 1, by omega⟩
      have : i = len := by omega
      subst this
      exact he N o hp
    | succ m ih =>
      intro N i o h hn hp
      obtain ⟨N, rfl⟩ : ∃ q, N = q + 1 := ⟨N - 1, by omega⟩
      rw [hs N i o (by omega) hp]
      exact ih N (i + 1) (g i o) (by omega) (by omega) (hP i o (by omega) hp)
  exact key len N 0 o (by omega) hN ho
theorem allB_at {p : Nat → Bool} {n i : Nat} (h : allB p n = true) (hi : i < n) : p i = true := allB_iff.1 h i hi
/-- 1 + n is not below 0. -/
theorem ge0_f {x : Int} (h : 0 ≤ x) : std.lt x 0 = false := by rw [std_lt]; exact decide_eq_false (by omega)
end X
