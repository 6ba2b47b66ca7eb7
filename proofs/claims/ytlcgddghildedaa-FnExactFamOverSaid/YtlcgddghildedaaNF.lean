/- Models of the functions, or plain laws about them; each theorem states its own conditions. -/
import Derived.Test.YtlcgddghildedaaNTf
import Derived.Test.YtlcgddghildedaaNA
set_option linter.unusedVariables false
set_option linter.unusedSimpArgs false
open Go.Proofs
namespace X
open PM Go
/-! ## FamOver -/
theorem FamOver_sp (x1 x2 x3 : Int) (x4 : Bool) (x5 : List Int) (x6 x7 : List (List Int)) (x8 : List Int) (x9 : List (List Int)) (a : List (List C)) (hb : a.length ≤ 1048576) (k : Bool → R) : spec_FamOver std x1 x2 x3 x4 x5 x6 x7 x8 x9 a k = k (allB (fun i => std.eq (std.rint a (i : Int) 0) 3) a.length) := by
  unfold spec_FamOver spec_FamOver_f
  generalize hN : std.fuel = N
  have hN : 4294967296 = N := hN
  have lp : spec_FamOver_l0 std N 0 x1 x2 x3 x4 x5 x6 x7 x8 x9 a (fun t => k t) (fun _ => k true) = bif allB (fun i => std.eq (std.rint a (i : Int) 0) 3) a.length then k true else k false := by
    refine loop_all0 (F := fun n i => spec_FamOver_l0 std n i x1 x2 x3 x4 x5 x6 x7 x8 x9 a (fun t => k t) (fun _ => k true)) (by omega) (fun n i hi => ?_) (fun n => ?_)
    · simp only [spec_FamOver_l0, std_rlen, lt_nat_t hi, inb_nat_t hi, bt, std_not, add1 (i := i) (by omega)]
      cases std.eq (std.rint a (i : Int) 0) 3 <;> rfl
    · simp only [spec_FamOver_l0, std_rlen, lt_nat_f (Nat.le_refl _), bf]
  rw [lp]
  cases allB _ _ <;> rfl
theorem FamOver_im (x1 x2 x3 : Int) (x4 : Bool) (x5 : List Int) (x6 x7 : List (List Int)) (x8 : List Int) (x9 : List (List Int)) (a : List (List C)) (hb : a.length ≤ 1048576) (k : Bool → R) : impl_FamOver std x1 x2 x3 x4 x5 x6 x7 x8 x9 a k = k (allB (fun i => std.eq (std.rint a (i : Int) 0) 3) a.length) := by
  unfold impl_FamOver impl_FamOver_f slices_ContainsFunc___impl_KidRun_impl_KidRun_ slices_ContainsFunc___impl_KidRun_impl_KidRun__f slices_IndexFunc___impl_KidRun_impl_KidRun_ slices_IndexFunc___impl_KidRun_impl_KidRun__f
  generalize hN : std.fuel = N
  have hN : 4294967296 = N := hN
  rw [std_rlen]
  have lp := fun k : Bool → R => loop_any (p := fun i => std.not (std.eq (std.rint a (i : Int) 0) 3)) (k := k) (F := fun n i => slices_IndexFunc___impl_KidRun_impl_KidRun__l0 std (impl_FamOver_1 std) n a a.length i (fun t => k (std.le 0 t)) (fun _ => k (std.le 0 (-1)))) (len := a.length) (N := N) (by omega)
    (fun n i hi => by simp only [slices_IndexFunc___impl_KidRun_impl_KidRun__l0, std_rlen, lt_nat_t hi, inb_nat_t hi, bt, impl_FamOver_1, impl_FamOver_1_f, add1 (i := i) (by omega)])
    (fun n => by simp only [slices_IndexFunc___impl_KidRun_impl_KidRun__l0, std_rlen, lt_nat_f (Nat.le_refl _), bf])
  exact (lp fun r => k (std.not r)).trans (congrArg k (neg_all _ _))
theorem FamOver_true (x1 x2 x3 : Int) (x4 : Bool) (x5 : List Int) (x6 x7 : List (List Int)) (x8 : List Int) (x9 : List (List Int)) (a : List (List C))
    (f1 : IntKind.i64.min ≤ x1 ∧ x1 ≤ IntKind.i64.max) (f2 : IntKind.i64.min ≤ x2 ∧ x2 ≤ IntKind.i64.max) (f3 : IntKind.i64.min ≤ x3 ∧ x3 ≤ IntKind.i64.max)
    (f5 : FitArr cx (.ints 3 .i64 x5)) (f6 : FitArr cx (.vecs 297 2 x6)) (f7 : FitArr cx (.vecs 299 3 x7)) (f8 : FitArr cx (.ints 3 .i64 x8)) (f9 : FitArr cx (.vecs 297 2 x9)) (fa : FitArr cx (.rows 295 a)) (k : Bool → R) :
    laws_FnExactFamOver std x1 x2 x3 x4 x5 x6 x7 x8 x9 a k = k true := by
  obtain ⟨v, v1, v2, v3⟩ := szFamily_v x1 x2 x3 x4 x5 x6 x7 x8 x9 a f5.1 f6.1 f7.1 f8.1 f9.1 fa 1048576 (by omega) (by omega)
  unfold laws_FnExactFamOver laws_FnExactFamOver_f
  simp only [v3]
  by_cases hc : v < 0
  · simp only [lt0_t hc, bt]
  · obtain ⟨b1, b2, b3, b4, b5, b6⟩ := v2 (by omega)
    have c2 := bKidRunS_n _ b6
    simp only [lt0_f hc, bf, toFamily_v x1 x2 x3 x4 x5 x6 x7 x8 x9 a b1 b2 (wd f6) b3 (wd f7) b4 b5 (wd f9) b6, FamOver_sp _ _ _ _ _ _ _ _ _ _ c2.1, FamOver_im _ _ _ _ _ _ _ _ _ _ c2.1, bsame, eqFamily_r x1 x2 x3 x4 x5 x6 x7 x8 x9 _ b1 b2 b3 b4 b5 c2, not_true']
end X
