/- Models of the functions, or plain laws about them; each theorem states its own conditions. -/
import Derived.Test.YtlcgddghildedaaMdl2
import Derived.Test.YtlcgddghildedaaQN1
import Derived.Test.YtlcgddghildedaaPlH
set_option linter.unusedVariables false
set_option linter.unusedSimpArgs false
open Go.Proofs
namespace X
open PM Go
theorem szIntS_v (a : List Int) (h : a.length ≤ maxLen) (left : Int) (h0 : 0 ≤ left) (h1 : left ≤ 1048576) : ∃ v, v ≤ left ∧ (0 ≤ v → a.length ≤ 1048576) ∧ ∀ k, laws_szIntS std a left k = k v := by
  have hm : maxLen = 9223372036854775807 := by decide
  have e : std.sub .i64 left (a.length : Int) = left - a.length := by rw [std_sub]; exact i64_wrap (by omega) (by omega)
  unfold laws_szIntS laws_szIntS_f
  simp only [std_ilen, e, std_lt]
  by_cases hc : left - (a.length : Int) < 0
  · exact ⟨-1, by omega, fun h => by omega, fun k => by simp only [decide_eq_true hc, bt]⟩
  · exact ⟨left - a.length, by omega, fun _ => by omega, fun k => by simp only [decide_eq_false hc, bf]⟩
theorem toIntS_v (a : List Int) (hb : a.length ≤ 1048576) (k : List Int → R) : laws_toIntS std a k = k a := by
  unfold laws_toIntS laws_toIntS_f
  generalize hN : std.fuel = N
  have hN : 4294967296 = N := hN
  have e1 : std.mkOk (a.length : Int) = true := by rw [std_mkOk]; exact decide_eq_true (by omega)
  have e2 : std.le (a.length : Int) (a.length : Int) = true := by rw [std_le]; exact decide_eq_true (Int.le_refl _)
  simp only [std_ilen, e1, e2, bt, std_izero, Int.toNat_natCast]
  have h := loop_fill (fun i => a.getD i 0) (0 : Int) (len := a.length) (F := fun n i o => laws_toIntS_l0 std n a i o (fun o => k o)) (kx := k) (N := N) (by omega) (fun n i o hi ho => ?_) (fun n o => ?_)
  · rw [h, range_getD]
  · simp only [laws_toIntS_l0, std_ilen, lt_nat_t hi, inb_nat_t hi, bt, ho, std_iget, std_iset, Int.toNat_natCast, add1 (i := i) (by omega)]
  · simp only [laws_toIntS_l0, std_ilen, lt_nat_f (Nat.le_refl _), bf]
theorem eqIntS_r (a : List Int) (hb : a.length ≤ 1048576) (k : Bool → R) : laws_eqIntS std a a k = k true := by
  unfold laws_eqIntS laws_eqIntS_f
  generalize hN : std.fuel = N
  have hN : 4294967296 = N := hN
  have es : ∀ x : Int, std.not (std.eq x x) = false := fun x => by simp
  have lp : laws_eqIntS_l0 std N a a 0 (fun t => k t) (fun _ => k true) = k true := by
    refine loop_true (F := fun n i => laws_eqIntS_l0 std n a a i (fun t => k t) (fun _ => k true)) (len := a.length) (by omega) (fun n i hi => ?_) (fun n => ?_)
    · simp only [laws_eqIntS_l0, std_ilen, lt_nat_t hi, inb_nat_t hi, bt, bf, std_iget, es, add1 (i := i) (by omega)]
    · simp only [laws_eqIntS_l0, std_ilen, lt_nat_f (Nat.le_refl _), bf]
  rw [es, bf, lp]
end X
