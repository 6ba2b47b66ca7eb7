/- For every input the law FnExactOver returns true; no condition. -/
import Derived.Test.YtlcgddghildedaaRows
import Derived.Test.YtlcgddghildedaaNO
import Derived.Test.YtlcgddghildedaaFx5
import Derived.WalkKit
import Derived.ProofKit
import Derived.OpenShut
import Derived.ShutString
import Derived.ChangeOld
import Derived.Below
set_option linter.unusedVariables false
set_option linter.unusedSimpArgs false
namespace Go.Proofs.Ytlcgddghildedaa.fnExactOver
open Go.ChangeShapes Go.WideShapes Go.ChangeAt Go.RowKit
set_option linter.unusedVariables false

theorem own : ownKnob Try.prog.godebug = none := by kernel_rfl
theorem laidOut : laidOutB Try.prog = true := by kernel_rfl

set_option maxRecDepth 100000 in
theorem lifted (os : Os) (started : os.Started) (H : Type) (enc : TypeId × Value → H) :
    ReturnsInHanded {} Try.checked os 4 .any (Rows.fnExactOverSpec.pre6 enc Try.prog Try.f4 Rows.fnExactOverRow.domain false) (Rows.fnExactOverSpec.post enc Try.prog Try.f4 false true false false) := by
  refine returnsInHanded_of_change (C := Try.checked) own started (by kernel_rfl) Try.func4
    (ChangeSpec.witness6 (enc := enc) (C := Try.checked) false ⟨#[], #[.agg #[.int .i64 0, .int .i64 0, .int .i64 0, .slice none 0 0, .slice none 0 0, .int .i64 0, .slice none 0 0, .slice none 0 0, .slice none 0 0]], []⟩ 8 (by kernel_rfl) (by kernel_rfl) (by kernel_rfl) (by kernel_rfl)) ?_
  intro W base args ds gs before hval0 hW hcnd _
  have hval : ∀ (j : Nat) t v, Try.f4.params[j]? = some t → args[j]? = some v → Value.okWide Try.prog W .any base t v := hval0
  have hW' := hW
  obtain ⟨p, q, hA0, hV, rfl, hfz, hnd⟩ := hW
  have hA : DataW.TrodAll enc Try.prog W 0 (fun _ => true) true Try.f4.params.toList args.toList ds p := hA0
  rw [Try.params4] at hA hval
  obtain ⟨v0, vs0, d0, ds0, p0, q0, hargs, rfl, rfl, h0, r0⟩ := trodAll_cons hA
  obtain ⟨rfl, rfl, rfl⟩ := trodAll_nil r0
  obtain rfl : args = #[v0] := by cases args; simp_all
  obtain ⟨rfl, rfl⟩ := trodVars_none hV
  have lt0 : ∀ x ∈ p0, x.block < W.heap.size := by obtain ⟨m, hm⟩ := h0; exact DataW.trod_lt m _ _ _ hm
  obtain ⟨x0, A0, F0⟩ := PM.read_arg X.cx_ok X.cx_read (X.cx_at48) rfl (hval 0 48 v0 rfl rfl) h0
  obtain ⟨cs0, rfl, E0⟩ := (show ∃ cs, x0 = .agg cs ∧ PM.All2 (PM.FitV X.cx) [.int .i64, .int .i64, .int .i64, .sl 39, .sl 24, .int .i64, .sl 44, .sl 45, .sl 46] cs from F0)
  obtain ⟨y0_0, ys0_0, rfl, G0_0, E0_0⟩ := E0.cons_inv
  obtain ⟨n1, rfl, b1⟩ := G0_0
  obtain ⟨y0_1, ys0_1, rfl, G0_1, E0_1⟩ := E0_0.cons_inv
  obtain ⟨n2, rfl, b2⟩ := G0_1
  obtain ⟨y0_2, ys0_2, rfl, G0_2, E0_2⟩ := E0_1.cons_inv
  obtain ⟨n3, rfl, b3⟩ := G0_2
  obtain ⟨y0_3, ys0_3, rfl, G0_3, E0_3⟩ := E0_2.cons_inv
  obtain ⟨a4, rfl, q4, b4⟩ := PM.fit_sl (X.cx_at39) rfl G0_3
  obtain ⟨n4, rfl⟩ := PM.ak_vecs q4
  obtain ⟨y0_4, ys0_4, rfl, G0_4, E0_4⟩ := E0_3.cons_inv
  obtain ⟨a5, rfl, q5, b5⟩ := PM.fit_sl (X.cx_at24) rfl G0_4
  obtain ⟨n5, rfl⟩ := PM.ak_ints q5
  obtain ⟨y0_5, ys0_5, rfl, G0_5, E0_5⟩ := E0_4.cons_inv
  obtain ⟨n6, rfl, b6⟩ := G0_5
  obtain ⟨y0_6, ys0_6, rfl, G0_6, E0_6⟩ := E0_5.cons_inv
  obtain ⟨a7, rfl, q7, b7⟩ := PM.fit_sl (X.cx_at44) rfl G0_6
  obtain ⟨n7, rfl⟩ := PM.ak_vecs q7
  obtain ⟨y0_7, ys0_7, rfl, G0_7, E0_7⟩ := E0_6.cons_inv
  obtain ⟨a8, rfl, q8, b8⟩ := PM.fit_sl (X.cx_at45) rfl G0_7
  obtain ⟨n8, rfl⟩ := PM.ak_rows q8
  obtain ⟨y0_8, ys0_8, rfl, G0_8, E0_8⟩ := E0_7.cons_inv
  obtain ⟨a9, rfl, q9, b9⟩ := PM.fit_sl (X.cx_at46) rfl G0_8
  obtain ⟨n9, rfl⟩ := PM.ak_rows q9
  cases E0_8.nil_inv
  clear hA0 hval0
  have weq : ∀ (c : X.laws_FnExactOver_T) (k : PM.V → PM.R), X.laws_FnExactOver_w c [.agg [.int .i64 n1, .int .i64 n2, .int .i64 n3, .arr (.vecs 354 3 n4), .arr (.ints 3 .i64 n5), .int .i64 n6, .arr (.vecs 277 3 n7), .arr (.rows 272 n8), .arr (.rows 195 n9)]] k = c n1 n2 n3 n4 n5 n6 n7 n8 n9 (fun r0 => k (.bool r0)) := fun c k => rfl
  have hd : X.laws_FnExactOver_w (X.laws_FnExactOver PM.std) [.agg [.int .i64 n1, .int .i64 n2, .int .i64 n3, .arr (.vecs 354 3 n4), .arr (.ints 3 .i64 n5), .int .i64 n6, .arr (.vecs 277 3 n7), .arr (.rows 272 n8), .arr (.rows 195 n9)]] some = some (.bool true) := (weq _ _).trans (X.Over_true n1 n2 n3 n4 n5 n6 n7 n8 n9 b1 b2 b3 b4 b5 b6 b7 b8 b9 (fun r0 => some (.bool r0)))
  refine (PM.law_calls X.laws_FnExactOver_g rfl hd (ds := [.agg [.int .i64 n1, .int .i64 n2, .int .i64 n3, .arr (.vecs 354 3 n4), .arr (.ints 3 .i64 n5), .int .i64 n6, .arr (.vecs 277 3 n7), .arr (.rows 272 n8), .arr (.rows 195 n9)]]) (w := W) (ws := [v0]) ⟨A0, trivial⟩).mono fun e W' ⟨he, bel⟩ => ?_
  subst he
  exact ⟨_, rfl, _, _, _, [], _, [], hW', trodAll_mk1 (shut_bool Try.underlying4 _), (trodAll_cons_mk (Below.trod laidOut (by kernel_rfl) (of_decide_eq_true (by kernel_rfl)) h0 bel lt0) trodAll_mk0), rfl, bel.frame _, fun h => by cases h⟩

theorem closed : joinedFacts Try.prog 4 Try.f4 Rows.fnExactOverSpec Rows.fnExactOverRow = true := by
  unfold joinedFacts
  rw [X.may_enter, X.lifts_final, X.make_cut]
  kernel_rfl

theorem over : Rows.fnExactOverRow.holds Try.pinned (OpenSpec.ofChange Rows.fnExactOverSpec) :=
  OpenClaim.holds_of_wide 4 Try.f4 rfl rfl rfl rfl rfl rfl rfl ⟨rfl, rfl, rfl, rfl, rfl⟩ rfl rfl rfl rfl rfl (by kernel_rfl) Try.func4 closed
    (of_decide_eq_true (by kernel_rfl)) (by unfold Func.isWrapper; first | (rw [if_pos (by decide +kernel)]; kernel_rfl) | (rw [if_neg (by decide +kernel)]; exact ⟨rfl, rfl⟩))
    (fun os started H enc _ => lifted os started H enc)

theorem proved : Rows.FnExactOverSaid := over
end Go.Proofs.Ytlcgddghildedaa.fnExactOver

