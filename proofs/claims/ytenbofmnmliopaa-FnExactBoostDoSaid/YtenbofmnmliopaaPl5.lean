/- Models of the functions, or plain laws about them; each theorem states its own conditions. -/
import Derived.Test.YtenbofmnmliopaaPl4
set_option linter.unusedVariables false
set_option linter.unusedSimpArgs false
open Go.Proofs
namespace X
open PM Go

theorem szIntS_eq (a : List Int) (left : Int) (h0 : 0 ≤ left) (h1 : left ≤ 1048576) (hb : a.length ≤ maxLen) (k : Int → R) :
    laws_szIntS std a left k = k (if left - a.length < 0 then -1 else left - a.length) := by
  have hb : a.length ≤ 9223372036854775807 := hb
  have w : IntKind.i64.wrap (left - a.length) = left - a.length := i64_wrap (by omega) (by omega)
  simp only [laws_szIntS, laws_szIntS_f, std_sub, std_ilen, w, std_lt]
  by_cases h : left - (a.length : Int) < 0 <;> simp only [h, decide_true, decide_false, cond_true, cond_false, if_true, if_false]

theorem toShelf_eq (a : List Int) (c : Int) (hb : a.length ≤ 2147483648) (k : List Int → Int → R) : laws_toShelf std a c k = k a c := by
  simp only [laws_toShelf, laws_toShelf_f, toIntS_eq a hb]
def valOk (x : Int) : Bool := bif decide (0 ≤ x) then decide (x ≤ 65535) else false
theorem val_val (x : Int) (k : Bool → R) : spec_l3Val std x k = k (valOk x) := by
  simp only [spec_l3Val, spec_l3Val_f, spec_l1In, spec_l1In_f, std_le, valOk]
  cases decide (0 ≤ x) <;> rfl
def keyOk (x : Int) : Bool := bif decide (0 ≤ x) then decide (x ≤ 7) else false
theorem key_val (x : Int) (k : Bool → R) : spec_l15Key std x k = k (keyOk x) := by
  simp only [spec_l15Key, spec_l15Key_f, spec_l1In, spec_l1In_f, std_le, keyOk]
  cases decide (0 ≤ x) <;> rfl
def shelfOk (a : List Int) (c : Int) : Bool := bif slotsOk a then valOk c else false
theorem ShelfOk_val (a : List Int) (c : Int) (k : Bool → R) : spec_ShelfOk std a c k = k (shelfOk a c) := by
  simp only [spec_ShelfOk, spec_ShelfOk_f, SlotsOk_val, val_val, shelfOk]
  cases slotsOk a <;> rfl
theorem ShelfOk_eq (a : List Int) (c : Int) (k : Bool → R) : impl_ShelfOk std a c k = spec_ShelfOk std a c k := by
  simp only [spec_ShelfOk, spec_ShelfOk_f, impl_ShelfOk, impl_ShelfOk_f, SlotsOk_eq, isValue_eq]
theorem eqShelf_eq (a b : List Int) (c d : Int) (hb : a.length ≤ 4294967295) (k : Bool → R) : laws_eqShelf std a c b d k = k (decide (a = b) && decide (c = d)) := by
  simp only [laws_eqShelf, laws_eqShelf_f, eqIntS_eq a b hb, std_eq, std_not]
  have e : (c == d) = decide (c = d) := by by_cases h : c = d <;> simp [h]
  rw [e]
  by_cases h1 : a = b <;> by_cases h2 : c = d <;> simp [h1, h2]
theorem ShelfOk_true (a : List Int) (c : Int) (b : FitArr cx (.ints 3 .i64 a)) (bc : IntKind.i64.min ≤ c ∧ c ≤ IntKind.i64.max) (k : Bool → R) : laws_FnExactShelfOk std a c k = k true := by
  unfold laws_FnExactShelfOk laws_FnExactShelfOk_f laws_szShelf laws_szShelf_f
  simp only [szIntS_eq a 1048576 (by omega) (by omega) b.1, std_lt]
  by_cases h : (1048576 : Int) - a.length < 0
  · simp [h]
  · have hl : a.length ≤ 1048576 := by omega
    simp only [h, if_false, decide_false, cond_false, toShelf_eq a c (by omega), ShelfOk_eq, ShelfOk_val, eqShelf_eq a a c c (by omega), std_beq, std_not, beq_self_eq_true, Bool.not_true, decide_true, Bool.and_self]

/-! ## Touches and modes -/
theorem isReg_eq : impl_isReg std = spec_l4Reg std := rfl
theorem isCell_eq : impl_isCell std = spec_l3Cell std := rfl
theorem OpOk_eq : impl_OpOk std = spec_OpOk std := rfl
theorem det_OpOk (a b c d : Int) : Det (spec_OpOk std a b c d) := by
  have hr : ∀ x, Det (spec_l4Reg std x) := fun x => det_in x _ _
  have hc : ∀ x, Det (spec_l3Cell std x) := fun x => det_in x _ _
  show Det (fun k => spec_OpOk std a b c d k)
  unfold spec_OpOk spec_OpOk_f
  repeat' first
    | exact det_k _
    | exact hr _
    | exact hc _
    | exact det_val _
    | exact det_in _ _ _
    | refine det_bif ?_ ?_
    | refine det_bind (hr _) fun _ => ?_
    | refine det_bind (hc _) fun _ => ?_
    | refine det_bind (det_val _) fun _ => ?_
    | refine det_bind (det_in _ _ _) fun _ => ?_
theorem det_Touches (a b c d : Int) : Det (spec_Touches std a b c d) := by
  show Det (fun k => spec_Touches std a b c d k)
  unfold spec_Touches spec_Touches_f
  repeat' first
    | exact det_k _
    | refine det_bif ?_ ?_
    | refine det_bind (det_OpOk _ _ _ _) fun _ => ?_
theorem BoostMode_eq (a b c d : Int) (k : Int → Int → R) : impl_BoostMode std a b c d k = spec_BoostMode std a b c d k := by
  obtain ⟨r, hr⟩ := det_OpOk a b c d
  simp only [impl_BoostMode, impl_BoostMode_f, spec_BoostMode, spec_BoostMode_f, spec_Touches, spec_Touches_f, OpOk_eq, hr]
  cases r
  · simp
  · simp only [std_not, Bool.not_true, cond_false, std_eq]
    by_cases h5 : a = 5
    · subst h5; simp
    by_cases h6 : a = 6
    · subst h6; simp
    by_cases h12 : a = 12
    · subst h12; simp
    by_cases h13 : a = 13
    · subst h13; simp
    by_cases h14 : a = 14
    · subst h14; simp
    by_cases h15 : a = 15
    · subst h15; simp
    by_cases h16 : a = 16
    · subst h16; simp
    have e : ∀ n : Int, a ≠ n → (a == n) = false := fun n h => by simpa using h
    simp [e 5 h5, e 6 h6, e 12 h12, e 13 h13, e 14 h14, e 15 h15, e 16 h16]
theorem det_BoostMode (a b c d : Int) : Det2 (spec_BoostMode std a b c d) := by
  show Det2 (fun k => spec_BoostMode std a b c d k)
  unfold spec_BoostMode spec_BoostMode_f
  repeat' first
    | exact det2_k _ _
    | refine det2_bif ?_ ?_
    | refine det2_bind (det_Touches _ _ _ _) fun _ => ?_
theorem BoostMode_true (a b c d : Int) (b1 : IntKind.i64.min ≤ a ∧ a ≤ IntKind.i64.max) (b2 : IntKind.i64.min ≤ b ∧ b ≤ IntKind.i64.max) (b3 : IntKind.i64.min ≤ c ∧ c ≤ IntKind.i64.max) (b4 : IntKind.i64.min ≤ d ∧ d ≤ IntKind.i64.max) (k : Bool → R) : laws_FnExactBoostMode std a b c d k = k true := by
  obtain ⟨r, s, h⟩ := det_BoostMode a b c d
  simp only [laws_FnExactBoostMode, laws_FnExactBoostMode_f, laws_toOp, laws_toOp_f, BoostMode_eq, h]
  simp
end X
