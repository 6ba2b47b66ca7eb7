/- For every input the law FnExactCommitBreak returns true; no condition. -/
import Derived.Test.YtnkgcegeinemjaaRows
import Derived.Test.YtnkgcegeinemjaaQ9
import Derived.Test.YtnkgcegeinemjaaFx2
import Derived.WalkKit
import Derived.ProofKit
import Derived.OpenShut
import Derived.ShutString
import Derived.ChangeOld
import Derived.Below
set_option linter.unusedVariables false
set_option linter.unusedSimpArgs false
namespace Go.Proofs.Ytnkgcegeinemjaa.fnExactCommitBreak
open Go.ChangeShapes Go.WideShapes Go.ChangeAt Go.RowKit
set_option linter.unusedVariables false

theorem own : ownKnob Try.prog.godebug = none := by kernel_rfl
theorem laidOut : laidOutB Try.prog = true := by kernel_rfl

set_option maxRecDepth 100000 in
theorem lifted (os : Os) (started : os.Started) (H : Type) (enc : TypeId × Value → H) :
    ReturnsInHanded {} Try.checked os 17 .any (Rows.fnExactCommitBreakSpec.pre6 enc Try.prog Try.f17 Rows.fnExactCommitBreakRow.domain false) (Rows.fnExactCommitBreakSpec.post enc Try.prog Try.f17 false true false false) := by
  refine returnsInHanded_of_change (C := Try.checked) own started (by kernel_rfl) Try.func17
    (ChangeSpec.witness6 (enc := enc) (C := Try.checked) false ⟨#[], #[.agg #[.int .i64 0, .int .i64 0, .int .i64 0, .int .i64 0, .int .i64 0, .slice none 0 0, .slice none 0 0]], []⟩ 8 (by kernel_rfl) (by kernel_rfl) (by kernel_rfl) (by kernel_rfl)) ?_
  intro W base args ds gs before hval0 hW hcnd _
  have hval : ∀ (j : Nat) t v, Try.f17.params[j]? = some t → args[j]? = some v → Value.okWide Try.prog W .any base t v := hval0
  have hW' := hW
  obtain ⟨p, q, hA0, hV, rfl, hfz, hnd⟩ := hW
  have hA : DataW.TrodAll enc Try.prog W 0 (fun _ => true) true Try.f17.params.toList args.toList ds p := hA0
  rw [Try.params17] at hA hval
  obtain ⟨v0, vs0, d0, ds0, p0, q0, hargs, rfl, rfl, h0, r0⟩ := trodAll_cons hA
  obtain ⟨rfl, rfl, rfl⟩ := trodAll_nil r0
  obtain rfl : args = #[v0] := by cases args; simp_all
  obtain ⟨rfl, rfl⟩ := trodVars_none hV
  have lt0 : ∀ x ∈ p0, x.block < W.heap.size := by obtain ⟨m, hm⟩ := h0; exact DataW.trod_lt m _ _ _ hm
  obtain ⟨x0, A0, F0⟩ := PM.read_arg X.cx_ok X.cx_read (X.cx_at77) rfl (hval 0 77 v0 rfl rfl) h0
  obtain ⟨cs0, rfl, E0⟩ := (show ∃ cs, x0 = .agg cs ∧ PM.All2 (PM.FitV X.cx) [.int .i64, .int .i64, .int .i64, .int .i64, .int .i64, .sl 75, .sl 59] cs from F0)
  obtain ⟨y0_0, ys0_0, rfl, G0_0, E0_0⟩ := E0.cons_inv
  obtain ⟨n1, rfl, b1⟩ := G0_0
  obtain ⟨y0_1, ys0_1, rfl, G0_1, E0_1⟩ := E0_0.cons_inv
  obtain ⟨n2, rfl, b2⟩ := G0_1
  obtain ⟨y0_2, ys0_2, rfl, G0_2, E0_2⟩ := E0_1.cons_inv
  obtain ⟨n3, rfl, b3⟩ := G0_2
  obtain ⟨y0_3, ys0_3, rfl, G0_3, E0_3⟩ := E0_2.cons_inv
  obtain ⟨n4, rfl, b4⟩ := G0_3
  obtain ⟨y0_4, ys0_4, rfl, G0_4, E0_4⟩ := E0_3.cons_inv
  obtain ⟨n5, rfl, b5⟩ := G0_4
  obtain ⟨y0_5, ys0_5, rfl, G0_5, E0_5⟩ := E0_4.cons_inv
  obtain ⟨a6, rfl, q6, b6⟩ := PM.fit_sl (X.cx_at75) rfl G0_5
  obtain ⟨n6, rfl⟩ := PM.ak_vecs q6
  obtain ⟨y0_6, ys0_6, rfl, G0_6, E0_6⟩ := E0_5.cons_inv
  obtain ⟨a7, rfl, q7, b7⟩ := PM.fit_sl (X.cx_at59) rfl G0_6
  obtain ⟨n7, rfl⟩ := PM.ak_ints q7
  cases E0_6.nil_inv
  clear hA0 hval0
  have weq : ∀ (c : X.laws_FnExactCommitBreak_T) (k : PM.V → PM.R), X.laws_FnExactCommitBreak_w c [.agg [.int .i64 n1, .int .i64 n2, .int .i64 n3, .int .i64 n4, .int .i64 n5, .arr (.vecs 139 2 n6), .arr (.ints 3 .i64 n7)]] k = c n1 n2 n3 n4 n5 n6 n7 (fun r0 => k (.bool r0)) := fun c k => rfl
  have hd : X.laws_FnExactCommitBreak_w (X.laws_FnExactCommitBreak PM.std) [.agg [.int .i64 n1, .int .i64 n2, .int .i64 n3, .int .i64 n4, .int .i64 n5, .arr (.vecs 139 2 n6), .arr (.ints 3 .i64 n7)]] some = some (.bool true) := (weq _ _).trans (X.CommitBreak_true n1 n2 n3 n4 n5 n6 n7 b1 b2 b3 b4 b5 b6 b7 (fun r0 => some (.bool r0)))
  refine (PM.law_calls X.laws_FnExactCommitBreak_g rfl hd (ds := [.agg [.int .i64 n1, .int .i64 n2, .int .i64 n3, .int .i64 n4, .int .i64 n5, .arr (.vecs 139 2 n6), .arr (.ints 3 .i64 n7)]]) (w := W) (ws := [v0]) ⟨A0, trivial⟩).mono fun e W' ⟨he, bel⟩ => ?_
  subst he
  exact ⟨_, rfl, _, _, _, [], _, [], hW', trodAll_mk1 (shut_bool Try.underlying4 _), (trodAll_cons_mk (Below.trod laidOut (by kernel_rfl) (of_decide_eq_true (by kernel_rfl)) h0 bel lt0) trodAll_mk0), rfl, bel.frame _, fun h => by cases h⟩

theorem closed : joinedFacts Try.prog 17 Try.f17 Rows.fnExactCommitBreakSpec Rows.fnExactCommitBreakRow = true := by
  unfold joinedFacts
  rw [X.may_enter, X.lifts_final, X.make_cut]
  kernel_rfl

theorem over : Rows.fnExactCommitBreakRow.holds Try.pinned (OpenSpec.ofChange Rows.fnExactCommitBreakSpec) :=
  OpenClaim.holds_of_wide 17 Try.f17 rfl rfl rfl rfl rfl rfl rfl ⟨rfl, rfl, rfl, rfl, rfl⟩ rfl rfl rfl rfl rfl (by kernel_rfl) Try.func17 closed
    (of_decide_eq_true (by kernel_rfl)) (by unfold Func.isWrapper; first | (rw [if_pos (by decide +kernel)]; kernel_rfl) | (rw [if_neg (by decide +kernel)]; exact ⟨rfl, rfl⟩))
    (fun os started H enc _ => lifted os started H enc)

theorem proved : Rows.FnExactCommitBreakSaid := over
end Go.Proofs.Ytnkgcegeinemjaa.fnExactCommitBreak

