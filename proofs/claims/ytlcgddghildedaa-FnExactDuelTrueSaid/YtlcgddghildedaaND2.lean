/- Models of the functions, or plain laws about them; each theorem states its own conditions. -/
import Derived.Test.YtlcgddghildedaaNTd2
import Derived.Test.YtlcgddghildedaaNA
set_option linter.unusedVariables false
set_option linter.unusedSimpArgs false
open Go.Proofs
namespace X
open PM Go
/-! ## DuelOver -/
theorem DuelOver_sp (c : Int) (m : List (List Int)) (a h : List (List C)) (hb : a.length ≤ 1048576) (k : Bool → R) : spec_DuelOver std c m a h k = k (allB (fun i => std.eq (std.rint a (i : Int) 0) 3) a.length) := by
  unfold spec_DuelOver spec_DuelOver_f
  generalize hN : std.fuel = N
  have hN : 4294967296 = N := hN
  have lp : spec_DuelOver_l0 std N 0 c m a h (fun t => k t) (fun _ => k true) = bif allB (fun i => std.eq (std.rint a (i : Int) 0) 3) a.length then k true else k false := by
    refine loop_all0 (F := fun n i => spec_DuelOver_l0 std n i c m a h (fun t => k t) (fun _ => k true)) (by omega) (fun n i hi => ?_) (fun n => ?_)
    · simp only [spec_DuelOver_l0, std_rlen, lt_nat_t hi, inb_nat_t hi, bt, std_not, add1 (i := i) (by omega)]
      cases std.eq (std.rint a (i : Int) 0) 3 <;> rfl
    · simp only [spec_DuelOver_l0, std_rlen, lt_nat_f (Nat.le_refl _), bf]
  rw [lp]
  cases allB _ _ <;> rfl
theorem DuelOver_im (c : Int) (m : List (List Int)) (a h : List (List C)) (hb : a.length ≤ 1048576) (k : Bool → R) : impl_DuelOver std c m a h k = k (allB (fun i => std.eq (std.rint a (i : Int) 0) 3) a.length) := by
  unfold impl_DuelOver impl_DuelOver_f slices_ContainsFunc___impl_JobRun_impl_JobRun_ slices_ContainsFunc___impl_JobRun_impl_JobRun__f slices_IndexFunc___impl_JobRun_impl_JobRun_ slices_IndexFunc___impl_JobRun_impl_JobRun__f
  generalize hN : std.fuel = N
  have hN : 4294967296 = N := hN
  rw [std_rlen]
  have lp := fun k : Bool → R => loop_any (p := fun i => std.not (std.eq (std.rint a (i : Int) 0) 3)) (k := k) (F := fun n i => slices_IndexFunc___impl_JobRun_impl_JobRun__l0 std (impl_DuelOver_1 std) n a a.length i (fun t => k (std.le 0 t)) (fun _ => k (std.le 0 (-1)))) (len := a.length) (N := N) (by omega)
    (fun n i hi => by simp only [slices_IndexFunc___impl_JobRun_impl_JobRun__l0, std_rlen, lt_nat_t hi, inb_nat_t hi, bt, impl_DuelOver_1, impl_DuelOver_1_f, add1 (i := i) (by omega)])
    (fun n => by simp only [slices_IndexFunc___impl_JobRun_impl_JobRun__l0, std_rlen, lt_nat_f (Nat.le_refl _), bf])
  exact (lp fun r => k (std.not r)).trans (congrArg k (neg_all _ _))
end X
