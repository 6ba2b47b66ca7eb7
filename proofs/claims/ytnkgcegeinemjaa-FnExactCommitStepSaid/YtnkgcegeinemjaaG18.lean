/- For every input the law FnExactCommitStep returns true; no condition. -/
import Derived.Test.YtnkgcegeinemjaaRows
import Derived.Test.YtnkgcegeinemjaaQ10
import Derived.Test.YtnkgcegeinemjaaFx2
import Derived.WalkKit
import Derived.ProofKit
import Derived.OpenShut
import Derived.ShutString
import Derived.ChangeOld
import Derived.Below
set_option linter.unusedVariables false
set_option linter.unusedSimpArgs false
namespace Go.Proofs.Ytnkgcegeinemjaa.fnExactCommitStep
open Go.ChangeShapes Go.WideShapes Go.ChangeAt Go.RowKit
set_option linter.unusedVariables false

theorem own : ownKnob Try.prog.godebug = none := by kernel_rfl
theorem laidOut : laidOutB Try.prog = true := by kernel_rfl

set_option maxRecDepth 100000 in
theorem lifted (os : Os) (started : os.Started) (H : Type) (enc : TypeId × Value → H) :
    ReturnsInHanded {} Try.checked os 18 .any (Rows.fnExactCommitStepSpec.pre6 enc Try.prog Try.f18 Rows.fnExactCommitStepRow.domain false) (Rows.fnExactCommitStepSpec.post enc Try.prog Try.f18 false true false false) := by
  refine returnsInHanded_of_change (C := Try.checked) own started (by kernel_rfl) Try.func18
    (ChangeSpec.witness6 (enc := enc) (C := Try.checked) false ⟨#[], #[.agg #[.int .i64 0, .slice none 0 0], .agg #[.int .i64 0, .int .i64 0, .int .i64 0, .int .i64 0, .int .i64 0, .slice none 0 0, .slice none 0 0]], []⟩ 8 (by kernel_rfl) (by kernel_rfl) (by kernel_rfl) (by kernel_rfl)) ?_
  intro W base args ds gs before hval0 hW hcnd _
  have hval : ∀ (j : Nat) t v, Try.f18.params[j]? = some t → args[j]? = some v → Value.okWide Try.prog W .any base t v := hval0
  have hW' := hW
  obtain ⟨p, q, hA0, hV, rfl, hfz, hnd⟩ := hW
  have hA : DataW.TrodAll enc Try.prog W 0 (fun _ => true) true Try.f18.params.toList args.toList ds p := hA0
  rw [Try.params18] at hA hval
  obtain ⟨v0, vs0, d0, ds0, p0, q0, hargs, rfl, rfl, h0, r0⟩ := trodAll_cons hA
  obtain ⟨v1, vs1, d1, ds1, p1, q1, rfl, rfl, rfl, h1, r1⟩ := trodAll_cons r0
  obtain ⟨rfl, rfl, rfl⟩ := trodAll_nil r1
  obtain rfl : args = #[v0, v1] := by cases args; simp_all
  obtain ⟨rfl, rfl⟩ := trodVars_none hV
  have lt0 : ∀ x ∈ p0, x.block < W.heap.size := by obtain ⟨m, hm⟩ := h0; exact DataW.trod_lt m _ _ _ hm
  obtain ⟨x0, A0, F0⟩ := PM.read_arg X.cx_ok X.cx_read (X.cx_at34) rfl (hval 0 34 v0 rfl rfl) h0
  obtain ⟨cs0, rfl, E0⟩ := (show ∃ cs, x0 = .agg cs ∧ PM.All2 (PM.FitV X.cx) [.int .i64, .sl 32] cs from F0)
  obtain ⟨y0_0, ys0_0, rfl, G0_0, E0_0⟩ := E0.cons_inv
  obtain ⟨n1, rfl, b1⟩ := G0_0
  obtain ⟨y0_1, ys0_1, rfl, G0_1, E0_1⟩ := E0_0.cons_inv
  obtain ⟨a2, rfl, q2, b2⟩ := PM.fit_sl (X.cx_at32) rfl G0_1
  obtain ⟨n2, rfl⟩ := PM.ak_vecs q2
  cases E0_1.nil_inv
  have lt1 : ∀ x ∈ p1, x.block < W.heap.size := by obtain ⟨m, hm⟩ := h1; exact DataW.trod_lt m _ _ _ hm
  obtain ⟨x1, A1, F1⟩ := PM.read_arg X.cx_ok X.cx_read (X.cx_at77) rfl (hval 1 77 v1 rfl rfl) h1
  obtain ⟨cs1, rfl, E1⟩ := (show ∃ cs, x1 = .agg cs ∧ PM.All2 (PM.FitV X.cx) [.int .i64, .int .i64, .int .i64, .int .i64, .int .i64, .sl 75, .sl 59] cs from F1)
  obtain ⟨y1_0, ys1_0, rfl, G1_0, E1_0⟩ := E1.cons_inv
  obtain ⟨n3, rfl, b3⟩ := G1_0
  obtain ⟨y1_1, ys1_1, rfl, G1_1, E1_1⟩ := E1_0.cons_inv
  obtain ⟨n4, rfl, b4⟩ := G1_1
  obtain ⟨y1_2, ys1_2, rfl, G1_2, E1_2⟩ := E1_1.cons_inv
  obtain ⟨n5, rfl, b5⟩ := G1_2
  obtain ⟨y1_3, ys1_3, rfl, G1_3, E1_3⟩ := E1_2.cons_inv
  obtain ⟨n6, rfl, b6⟩ := G1_3
  obtain ⟨y1_4, ys1_4, rfl, G1_4, E1_4⟩ := E1_3.cons_inv
  obtain ⟨n7, rfl, b7⟩ := G1_4
  obtain ⟨y1_5, ys1_5, rfl, G1_5, E1_5⟩ := E1_4.cons_inv
  obtain ⟨a8, rfl, q8, b8⟩ := PM.fit_sl (X.cx_at75) rfl G1_5
  obtain ⟨n8, rfl⟩ := PM.ak_vecs q8
  obtain ⟨y1_6, ys1_6, rfl, G1_6, E1_6⟩ := E1_5.cons_inv
  obtain ⟨a9, rfl, q9, b9⟩ := PM.fit_sl (X.cx_at59) rfl G1_6
  obtain ⟨n9, rfl⟩ := PM.ak_ints q9
  cases E1_6.nil_inv
  clear hA0 hval0
  have weq : ∀ (c : X.laws_FnExactCommitStep_T) (k : PM.V → PM.R), X.laws_FnExactCommitStep_w c [.agg [.int .i64 n1, .arr (.vecs 155 3 n2)], .agg [.int .i64 n3, .int .i64 n4, .int .i64 n5, .int .i64 n6, .int .i64 n7, .arr (.vecs 139 2 n8), .arr (.ints 3 .i64 n9)]] k = c n1 n2 n3 n4 n5 n6 n7 n8 n9 (fun r0 => k (.bool r0)) := fun c k => rfl
  have hd : X.laws_FnExactCommitStep_w (X.laws_FnExactCommitStep PM.std) [.agg [.int .i64 n1, .arr (.vecs 155 3 n2)], .agg [.int .i64 n3, .int .i64 n4, .int .i64 n5, .int .i64 n6, .int .i64 n7, .arr (.vecs 139 2 n8), .arr (.ints 3 .i64 n9)]] some = some (.bool true) := (weq _ _).trans (X.CommitStep_true n1 n2 n3 n4 n5 n6 n7 n8 n9 b1 b2 b3 b4 b5 b6 b7 b8 b9 (fun r0 => some (.bool r0)))
  refine (PM.law_calls X.laws_FnExactCommitStep_g rfl hd (ds := [.agg [.int .i64 n1, .arr (.vecs 155 3 n2)], .agg [.int .i64 n3, .int .i64 n4, .int .i64 n5, .int .i64 n6, .int .i64 n7, .arr (.vecs 139 2 n8), .arr (.ints 3 .i64 n9)]]) (w := W) (ws := [v0, v1]) ⟨A0, A1, trivial⟩).mono fun e W' ⟨he, bel⟩ => ?_
  subst he
  exact ⟨_, rfl, _, _, _, [], _, [], hW', trodAll_mk1 (shut_bool Try.underlying4 _), (trodAll_cons_mk (Below.trod laidOut (by kernel_rfl) (of_decide_eq_true (by kernel_rfl)) h0 bel lt0) (trodAll_cons_mk (Below.trod laidOut (by kernel_rfl) (of_decide_eq_true (by kernel_rfl)) h1 bel lt1) trodAll_mk0)), rfl, bel.frame _, fun h => by cases h⟩

theorem closed : joinedFacts Try.prog 18 Try.f18 Rows.fnExactCommitStepSpec Rows.fnExactCommitStepRow = true := by
  unfold joinedFacts
  rw [X.may_enter, X.lifts_final, X.make_cut]
  kernel_rfl

theorem over : Rows.fnExactCommitStepRow.holds Try.pinned (OpenSpec.ofChange Rows.fnExactCommitStepSpec) :=
  OpenClaim.holds_of_wide 18 Try.f18 rfl rfl rfl rfl rfl rfl rfl ⟨rfl, rfl, rfl, rfl, rfl⟩ rfl rfl rfl rfl rfl (by kernel_rfl) Try.func18 closed
    (of_decide_eq_true (by kernel_rfl)) (by unfold Func.isWrapper; first | (rw [if_pos (by decide +kernel)]; kernel_rfl) | (rw [if_neg (by decide +kernel)]; exact ⟨rfl, rfl⟩))
    (fun os started H enc _ => lifted os started H enc)

theorem proved : Rows.FnExactCommitStepSaid := over
end Go.Proofs.Ytnkgcegeinemjaa.fnExactCommitStep

