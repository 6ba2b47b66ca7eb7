/- For every input the law FnExactDuelOver returns true; no condition. -/
import Derived.Test.YtlcgddghildedaaRows
import Derived.Test.YtlcgddghildedaaND
import Derived.Test.YtlcgddghildedaaFx5
import Derived.WalkKit
import Derived.ProofKit
import Derived.OpenShut
import Derived.ShutString
import Derived.ChangeOld
import Derived.Below
set_option linter.unusedVariables false
set_option linter.unusedSimpArgs false
namespace Go.Proofs.Ytlcgddghildedaa.fnExactDuelOver
open Go.ChangeShapes Go.WideShapes Go.ChangeAt Go.RowKit
set_option linter.unusedVariables false

theorem own : ownKnob Try.prog.godebug = none := by kernel_rfl
theorem laidOut : laidOutB Try.prog = true := by kernel_rfl

set_option maxRecDepth 100000 in
theorem lifted (os : Os) (started : os.Started) (H : Type) (enc : TypeId × Value → H) :
    ReturnsInHanded {} Try.checked os 11 .any (Rows.fnExactDuelOverSpec.pre6 enc Try.prog Try.f11 Rows.fnExactDuelOverRow.domain false) (Rows.fnExactDuelOverSpec.post enc Try.prog Try.f11 false true false false) := by
  refine returnsInHanded_of_change (C := Try.checked) own started (by kernel_rfl) Try.func11
    (ChangeSpec.witness6 (enc := enc) (C := Try.checked) false ⟨#[], #[.agg #[.int .i64 0, .slice none 0 0, .slice none 0 0, .slice none 0 0]], []⟩ 8 (by kernel_rfl) (by kernel_rfl) (by kernel_rfl) (by kernel_rfl)) ?_
  intro W base args ds gs before hval0 hW hcnd _
  have hval : ∀ (j : Nat) t v, Try.f11.params[j]? = some t → args[j]? = some v → Value.okWide Try.prog W .any base t v := hval0
  have hW' := hW
  obtain ⟨p, q, hA0, hV, rfl, hfz, hnd⟩ := hW
  have hA : DataW.TrodAll enc Try.prog W 0 (fun _ => true) true Try.f11.params.toList args.toList ds p := hA0
  rw [Try.params11] at hA hval
  obtain ⟨v0, vs0, d0, ds0, p0, q0, hargs, rfl, rfl, h0, r0⟩ := trodAll_cons hA
  obtain ⟨rfl, rfl, rfl⟩ := trodAll_nil r0
  obtain rfl : args = #[v0] := by cases args; simp_all
  obtain ⟨rfl, rfl⟩ := trodVars_none hV
  have lt0 : ∀ x ∈ p0, x.block < W.heap.size := by obtain ⟨m, hm⟩ := h0; exact DataW.trod_lt m _ _ _ hm
  obtain ⟨x0, A0, F0⟩ := PM.read_arg X.cx_ok X.cx_read (X.cx_at64) rfl (hval 0 64 v0 rfl rfl) h0
  obtain ⟨cs0, rfl, E0⟩ := (show ∃ cs, x0 = .agg cs ∧ PM.All2 (PM.FitV X.cx) [.int .i64, .sl 39, .sl 62, .sl 46] cs from F0)
  obtain ⟨y0_0, ys0_0, rfl, G0_0, E0_0⟩ := E0.cons_inv
  obtain ⟨n1, rfl, b1⟩ := G0_0
  obtain ⟨y0_1, ys0_1, rfl, G0_1, E0_1⟩ := E0_0.cons_inv
  obtain ⟨a2, rfl, q2, b2⟩ := PM.fit_sl (X.cx_at39) rfl G0_1
  obtain ⟨n2, rfl⟩ := PM.ak_vecs q2
  obtain ⟨y0_2, ys0_2, rfl, G0_2, E0_2⟩ := E0_1.cons_inv
  obtain ⟨a3, rfl, q3, b3⟩ := PM.fit_sl (X.cx_at62) rfl G0_2
  obtain ⟨n3, rfl⟩ := PM.ak_rows q3
  obtain ⟨y0_3, ys0_3, rfl, G0_3, E0_3⟩ := E0_2.cons_inv
  obtain ⟨a4, rfl, q4, b4⟩ := PM.fit_sl (X.cx_at46) rfl G0_3
  obtain ⟨n4, rfl⟩ := PM.ak_rows q4
  cases E0_3.nil_inv
  clear hA0 hval0
  have weq : ∀ (c : X.laws_FnExactDuelOver_T) (k : PM.V → PM.R), X.laws_FnExactDuelOver_w c [.agg [.int .i64 n1, .arr (.vecs 354 3 n2), .arr (.rows 285 n3), .arr (.rows 195 n4)]] k = c n1 n2 n3 n4 (fun r0 => k (.bool r0)) := fun c k => rfl
  have hd : X.laws_FnExactDuelOver_w (X.laws_FnExactDuelOver PM.std) [.agg [.int .i64 n1, .arr (.vecs 354 3 n2), .arr (.rows 285 n3), .arr (.rows 195 n4)]] some = some (.bool true) := (weq _ _).trans (X.DuelOver_true n1 n2 n3 n4 b1 b2 b3 b4 (fun r0 => some (.bool r0)))
  refine (PM.law_calls X.laws_FnExactDuelOver_g rfl hd (ds := [.agg [.int .i64 n1, .arr (.vecs 354 3 n2), .arr (.rows 285 n3), .arr (.rows 195 n4)]]) (w := W) (ws := [v0]) ⟨A0, trivial⟩).mono fun e W' ⟨he, bel⟩ => ?_
  subst he
  exact ⟨_, rfl, _, _, _, [], _, [], hW', trodAll_mk1 (shut_bool Try.underlying4 _), (trodAll_cons_mk (Below.trod laidOut (by kernel_rfl) (of_decide_eq_true (by kernel_rfl)) h0 bel lt0) trodAll_mk0), rfl, bel.frame _, fun h => by cases h⟩

theorem closed : joinedFacts Try.prog 11 Try.f11 Rows.fnExactDuelOverSpec Rows.fnExactDuelOverRow = true := by
  unfold joinedFacts
  rw [X.may_enter, X.lifts_final, X.make_cut]
  kernel_rfl

theorem over : Rows.fnExactDuelOverRow.holds Try.pinned (OpenSpec.ofChange Rows.fnExactDuelOverSpec) :=
  OpenClaim.holds_of_wide 11 Try.f11 rfl rfl rfl rfl rfl rfl rfl ⟨rfl, rfl, rfl, rfl, rfl⟩ rfl rfl rfl rfl rfl (by kernel_rfl) Try.func11 closed
    (of_decide_eq_true (by kernel_rfl)) (by unfold Func.isWrapper; first | (rw [if_pos (by decide +kernel)]; kernel_rfl) | (rw [if_neg (by decide +kernel)]; exact ⟨rfl, rfl⟩))
    (fun os started H enc _ => lifted os started H enc)

theorem proved : Rows.FnExactDuelOverSaid := over
end Go.Proofs.Ytlcgddghildedaa.fnExactDuelOver

