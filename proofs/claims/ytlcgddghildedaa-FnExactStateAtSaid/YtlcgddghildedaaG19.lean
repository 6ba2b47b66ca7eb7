/- For every input the law FnExactStateAt returns true; no condition. -/
import Derived.Test.YtlcgddghildedaaRows
import Derived.Test.YtlcgddghildedaaNSA
import Derived.Test.YtlcgddghildedaaFx5
import Derived.WalkKit
import Derived.ProofKit
import Derived.OpenShut
import Derived.ShutString
import Derived.ChangeOld
import Derived.Below
set_option linter.unusedVariables false
set_option linter.unusedSimpArgs false
namespace Go.Proofs.Ytlcgddghildedaa.fnExactStateAt
open Go.ChangeShapes Go.WideShapes Go.ChangeAt Go.RowKit
set_option linter.unusedVariables false

theorem own : ownKnob Try.prog.godebug = none := by kernel_rfl
theorem laidOut : laidOutB Try.prog = true := by kernel_rfl

set_option maxRecDepth 100000 in
theorem lifted (os : Os) (started : os.Started) (H : Type) (enc : TypeId × Value → H) :
    ReturnsInHanded {} Try.checked os 19 .any (Rows.fnExactStateAtSpec.pre6 enc Try.prog Try.f19 Rows.fnExactStateAtRow.domain false) (Rows.fnExactStateAtSpec.post enc Try.prog Try.f19 false true false false) := by
  refine returnsInHanded_of_change (C := Try.checked) own started (by kernel_rfl) Try.func19
    (ChangeSpec.witness6 (enc := enc) (C := Try.checked) false ⟨#[], #[.slice none 0 0, .slice none 0 0, .int .i64 0], []⟩ 8 (by kernel_rfl) (by kernel_rfl) (by kernel_rfl) (by kernel_rfl)) ?_
  intro W base args ds gs before hval0 hW hcnd _
  have hval : ∀ (j : Nat) t v, Try.f19.params[j]? = some t → args[j]? = some v → Value.okWide Try.prog W .any base t v := hval0
  have hW' := hW
  obtain ⟨p, q, hA0, hV, rfl, hfz, hnd⟩ := hW
  have hA : DataW.TrodAll enc Try.prog W 0 (fun _ => true) true Try.f19.params.toList args.toList ds p := hA0
  rw [Try.params19] at hA hval
  obtain ⟨v0, vs0, d0, ds0, p0, q0, hargs, rfl, rfl, h0, r0⟩ := trodAll_cons hA
  obtain ⟨v1, vs1, d1, ds1, p1, q1, rfl, rfl, rfl, h1, r1⟩ := trodAll_cons r0
  obtain ⟨v2, vs2, d2, ds2, p2, q2, rfl, rfl, rfl, h2, r2⟩ := trodAll_cons r1
  obtain ⟨rfl, rfl, rfl⟩ := trodAll_nil r2
  obtain rfl : args = #[v0, v1, v2] := by cases args; simp_all
  obtain ⟨rfl, rfl⟩ := trodVars_none hV
  have lt0 : ∀ x ∈ p0, x.block < W.heap.size := by obtain ⟨m, hm⟩ := h0; exact DataW.trod_lt m _ _ _ hm
  obtain ⟨x0, A0, F0⟩ := PM.read_arg X.cx_ok X.cx_read (X.cx_at24) rfl (hval 0 24 v0 rfl rfl) h0
  obtain ⟨k0, e0, F0⟩ := (show ∃ k, [.sl 24] = [k] ∧ PM.FitV X.cx k x0 from F0)
  cases e0
  obtain ⟨a1, rfl, q1, b1⟩ := PM.fit_sl (X.cx_at24) rfl F0
  obtain ⟨n1, rfl⟩ := PM.ak_ints q1
  have lt1 : ∀ x ∈ p1, x.block < W.heap.size := by obtain ⟨m, hm⟩ := h1; exact DataW.trod_lt m _ _ _ hm
  obtain ⟨x1, A1, F1⟩ := PM.read_arg X.cx_ok X.cx_read (X.cx_at46) rfl (hval 1 46 v1 rfl rfl) h1
  obtain ⟨k1, e1, F1⟩ := (show ∃ k, [.sl 46] = [k] ∧ PM.FitV X.cx k x1 from F1)
  cases e1
  obtain ⟨a2, rfl, q2, b2⟩ := PM.fit_sl (X.cx_at46) rfl F1
  obtain ⟨n2, rfl⟩ := PM.ak_rows q2
  have lt2 : ∀ x ∈ p2, x.block < W.heap.size := by obtain ⟨m, hm⟩ := h2; exact DataW.trod_lt m _ _ _ hm
  obtain ⟨x2, A2, F2⟩ := PM.read_arg X.cx_ok X.cx_read (X.cx_at3) rfl (hval 2 3 v2 rfl rfl) h2
  obtain ⟨k2, e2, F2⟩ := (show ∃ k, [.int .i64] = [k] ∧ PM.FitV X.cx k x2 from F2)
  cases e2
  obtain ⟨n3, rfl, b3⟩ := F2
  clear hA0 hval0
  have weq : ∀ (c : X.laws_FnExactStateAt_T) (k : PM.V → PM.R), X.laws_FnExactStateAt_w c [.arr (.ints 3 .i64 n1), .arr (.rows 195 n2), .int .i64 n3] k = c n1 n2 n3 (fun r0 => k (.bool r0)) := fun c k => rfl
  have hd : X.laws_FnExactStateAt_w (X.laws_FnExactStateAt PM.std) [.arr (.ints 3 .i64 n1), .arr (.rows 195 n2), .int .i64 n3] some = some (.bool true) := (weq _ _).trans (X.StateAt_true n1 n2 n3 b1 b2 b3 (fun r0 => some (.bool r0)))
  refine (PM.law_calls X.laws_FnExactStateAt_g rfl hd (ds := [.arr (.ints 3 .i64 n1), .arr (.rows 195 n2), .int .i64 n3]) (w := W) (ws := [v0, v1, v2]) ⟨A0, A1, A2, trivial⟩).mono fun e W' ⟨he, bel⟩ => ?_
  subst he
  exact ⟨_, rfl, _, _, _, [], _, [], hW', trodAll_mk1 (shut_bool Try.underlying4 _), (trodAll_cons_mk (Below.trod laidOut (by kernel_rfl) (of_decide_eq_true (by kernel_rfl)) h0 bel lt0) (trodAll_cons_mk (Below.trod laidOut (by kernel_rfl) (of_decide_eq_true (by kernel_rfl)) h1 bel lt1) (trodAll_cons_mk (Below.trod laidOut (by kernel_rfl) (of_decide_eq_true (by kernel_rfl)) h2 bel lt2) trodAll_mk0))), rfl, bel.frame _, fun h => by cases h⟩

theorem closed : joinedFacts Try.prog 19 Try.f19 Rows.fnExactStateAtSpec Rows.fnExactStateAtRow = true := by
  unfold joinedFacts
  rw [X.may_enter, X.lifts_final, X.make_cut]
  kernel_rfl

theorem over : Rows.fnExactStateAtRow.holds Try.pinned (OpenSpec.ofChange Rows.fnExactStateAtSpec) :=
  OpenClaim.holds_of_wide 19 Try.f19 rfl rfl rfl rfl rfl rfl rfl ⟨rfl, rfl, rfl, rfl, rfl⟩ rfl rfl rfl rfl rfl (by kernel_rfl) Try.func19 closed
    (of_decide_eq_true (by kernel_rfl)) (by unfold Func.isWrapper; first | (rw [if_pos (by decide +kernel)]; kernel_rfl) | (rw [if_neg (by decide +kernel)]; exact ⟨rfl, rfl⟩))
    (fun os started H enc _ => lifted os started H enc)

theorem proved : Rows.FnExactStateAtSaid := over
end Go.Proofs.Ytlcgddghildedaa.fnExactStateAt

