/- Models of the functions, or plain laws about them; each theorem states its own conditions. -/
import Derived.Test.YtnkgcegeinemjaaPlB
import Derived.Test.YtnkgcegeinemjaaMdl2
set_option linter.unusedVariables false
set_option linter.unusedSimpArgs false
open Go.Proofs
namespace X
open PM Go
theorem within_eq : impl_within std = spec_l1In std := rfl
theorem isCell_eq : impl_isCell std = spec_l3Cell std := rfl
theorem isValue_eq : impl_isValue std = spec_l3Val std := rfl
theorem ProbeOk_eq : impl_ProbeOk std = spec_ProbeOk std := rfl
theorem l1In_val (x a b : Int) (k : Bool → R) : spec_l1In std x a b k = k (decide (a ≤ x ∧ x ≤ b)) := by
  simp only [spec_l1In, spec_l1In_f, std_le]
  by_cases h1 : a ≤ x <;> by_cases h2 : x ≤ b <;> simp [h1, h2]
def cellOk (x : Int) : Bool := decide (0 ≤ x ∧ x ≤ 15)
theorem det_in (x a b : Int) : Det (spec_l1In std x a b) := det_bif (det_k _) (det_k _)
theorem det_cell (x : Int) : Det (spec_l3Cell std x) := det_in x _ _
theorem det_val (x : Int) : Det (spec_l3Val std x) := det_in x _ _
theorem det_ProbeOk (a b c d : Int) : Det (spec_ProbeOk std a b c d) := by
  show Det (fun k => spec_ProbeOk std a b c d k)
  unfold spec_ProbeOk spec_ProbeOk_f
  repeat' first
    | exact det_k _
    | exact det_val _
    | refine det_bif ?_ ?_
    | refine det_bind (det_cell _) fun _ => ?_
    | refine det_bind (det_in _ _ _) fun _ => ?_
theorem ProbeOk_true (a b c d : Int) (b1 : IntKind.i64.min ≤ a ∧ a ≤ IntKind.i64.max) (b2 : IntKind.i64.min ≤ b ∧ b ≤ IntKind.i64.max) (b3 : IntKind.i64.min ≤ c ∧ c ≤ IntKind.i64.max) (b4 : IntKind.i64.min ≤ d ∧ d ≤ IntKind.i64.max) (k : Bool → R) : laws_FnExactProbeOk std a b c d k = k true := by
  obtain ⟨r, hr⟩ := det_ProbeOk a b c d
  simp only [laws_FnExactProbeOk, laws_FnExactProbeOk_f, laws_toProbe, laws_toProbe_f, ProbeOk_eq, hr, beq_self, not_true', cond_false]
theorem ProbeNew_eq : impl_ProbeNew std = spec_ProbeNew std := rfl
theorem eqProbe1 (a b c d : Int) (k : Bool → R) : laws_eqProbe std a b c d a b c d k = k true := by
  simp only [laws_eqProbe, laws_eqProbe_f, eq_self, not_true', cond_false]
theorem ProbeNew_true (c : Int) (b1 : IntKind.i64.min ≤ c ∧ c ≤ IntKind.i64.max) (k : Bool → R) : laws_FnExactProbeNew std c k = k true := by
  obtain ⟨r, hr⟩ := det_cell c
  simp only [laws_FnExactProbeNew, laws_FnExactProbeNew_f, ProbeNew_eq, spec_ProbeNew, spec_ProbeNew_f, hr]
  cases r <;> simp only [not_true', not_false', cond_true, cond_false, eqProbe1, beq_self]
end X
