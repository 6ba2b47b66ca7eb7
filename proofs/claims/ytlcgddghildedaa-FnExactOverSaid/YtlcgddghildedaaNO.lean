/- Models of the functions, or plain laws about them; each theorem states its own conditions. -/
import Derived.Test.YtlcgddghildedaaNTw
import Derived.Test.YtlcgddghildedaaNA
set_option linter.unusedVariables false
set_option linter.unusedSimpArgs false
open Go.Proofs
namespace X
open PM Go

/-! ## Over -/
theorem Over_sp (x1 x2 x3 : Int) (x4 : List (List Int)) (x5 : List Int) (x6 : Int) (x7 : List (List Int)) (a h : List (List C)) (hb : a.length ≤ 1048576) (k : Bool → R) : spec_Over std x1 x2 x3 x4 x5 x6 x7 a h k = k (allB (fun i => std.eq (std.rint a (i : Int) 0) 8) a.length) := by
  unfold spec_Over spec_Over_f
  generalize hN : std.fuel = N
  have hN : 4294967296 = N := hN
  have lp : spec_Over_l0 std N 0 x1 x2 x3 x4 x5 x6 x7 a h (fun t => k t) (fun _ => k true) = bif allB (fun i => std.eq (std.rint a (i : Int) 0) 8) a.length then k true else k false := by
    refine loop_all0 (F := fun n i => spec_Over_l0 std n i x1 x2 x3 x4 x5 x6 x7 a h (fun t => k t) (fun _ => k true)) (by omega) (fun n i hi => ?_) (fun n => ?_)
    · simp only [spec_Over_l0, std_rlen, lt_nat_t hi, inb_nat_t hi, bt, std_not, add1 (i := i) (by omega)]
      cases std.eq (std.rint a (i : Int) 0) 8 <;> rfl
    · simp only [spec_Over_l0, std_rlen, lt_nat_f (Nat.le_refl _), bf]
  rw [lp]
  cases allB _ _ <;> rfl
theorem Over_im (x1 x2 x3 : Int) (x4 : List (List Int)) (x5 : List Int) (x6 : Int) (x7 : List (List Int)) (a h : List (List C)) (hb : a.length ≤ 1048576) (k : Bool → R) : impl_Over std x1 x2 x3 x4 x5 x6 x7 a h k = k (allB (fun i => std.eq (std.rint a (i : Int) 0) 8) a.length) := by
  unfold impl_Over impl_Over_f slices_ContainsFunc___impl_Root_impl_Root_ slices_ContainsFunc___impl_Root_impl_Root__f slices_IndexFunc___impl_Root_impl_Root_ slices_IndexFunc___impl_Root_impl_Root__f
  generalize hN : std.fuel = N
  have hN : 4294967296 = N := hN
  rw [std_rlen]
  have lp := fun k : Bool → R => loop_any (p := fun i => std.not (std.eq (std.rint a (i : Int) 0) 8)) (k := k) (F := fun n i => slices_IndexFunc___impl_Root_impl_Root__l0 std (impl_Over_1 std) n a a.length i (fun t => k (std.le 0 t)) (fun _ => k (std.le 0 (-1)))) (len := a.length) (N := N) (by omega)
    (fun n i hi => by simp only [slices_IndexFunc___impl_Root_impl_Root__l0, std_rlen, lt_nat_t hi, inb_nat_t hi, bt, impl_Over_1, impl_Over_1_f, add1 (i := i) (by omega)])
    (fun n => by simp only [slices_IndexFunc___impl_Root_impl_Root__l0, std_rlen, lt_nat_f (Nat.le_refl _), bf])
  exact (lp fun r => k (std.not r)).trans (congrArg k (neg_all _ _))
theorem Over_true (x1 x2 x3 : Int) (x4 : List (List Int)) (x5 : List Int) (x6 : Int) (x7 : List (List Int)) (a h : List (List C))
    (f1 : IntKind.i64.min ≤ x1 ∧ x1 ≤ IntKind.i64.max) (f2 : IntKind.i64.min ≤ x2 ∧ x2 ≤ IntKind.i64.max) (f3 : IntKind.i64.min ≤ x3 ∧ x3 ≤ IntKind.i64.max) (f4 : FitArr cx (.vecs 354 3 x4)) (f5 : FitArr cx (.ints 3 .i64 x5)) (f6 : IntKind.i64.min ≤ x6 ∧ x6 ≤ IntKind.i64.max)
    (f7 : FitArr cx (.vecs 277 3 x7)) (fa : FitArr cx (.rows 272 a)) (fh : FitArr cx (.rows 195 h)) (k : Bool → R) :
    laws_FnExactOver std x1 x2 x3 x4 x5 x6 x7 a h k = k true := by
  obtain ⟨v, v1, v2, v3⟩ := szWorld_v x1 x2 x3 x4 x5 x6 x7 a h f4.1 f5.1 f7.1 fa fh 1048576 (by omega) (by omega)
  unfold laws_FnExactOver laws_FnExactOver_f
  simp only [v3]
  by_cases hc : v < 0
  · simp only [lt0_t hc, bt]
  · obtain ⟨b1, b2, b3, b4, b5⟩ := v2 (by omega)
    have c2 := bRootS_n _ b4
    simp only [lt0_f hc, bf, toWorld_v x1 x2 x3 x4 x5 x6 x7 a h b1 (wd f4) b2 b3 (wd f7) b4 b5, Over_sp _ _ _ _ _ _ _ _ _ c2.1, Over_im _ _ _ _ _ _ _ _ _ c2.1, bsame, eqWorld_r x1 x2 x3 x4 x5 x6 x7 _ _ b1 b2 b3 c2 (bWroteS_n _ b5), not_true']
end X
