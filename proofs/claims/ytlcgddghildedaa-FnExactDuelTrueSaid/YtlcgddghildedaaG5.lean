/- For every input the law FnExactDuelTrue returns true; no condition. -/
import Derived.Test.YtlcgddghildedaaRows
import Derived.Test.YtlcgddghildedaaNDT
import Derived.Test.YtlcgddghildedaaFx5
import Derived.WalkKit
import Derived.ProofKit
import Derived.OpenShut
import Derived.ShutString
import Derived.ChangeOld
import Derived.Below
set_option linter.unusedVariables false
set_option linter.unusedSimpArgs false
namespace Go.Proofs.Ytlcgddghildedaa.fnExactDuelTrue
open Go.ChangeShapes Go.WideShapes Go.ChangeAt Go.RowKit
set_option linter.unusedVariables false

theorem own : ownKnob Try.prog.godebug = none := by kernel_rfl
theorem laidOut : laidOutB Try.prog = true := by kernel_rfl

set_option maxRecDepth 100000 in
theorem lifted (os : Os) (started : os.Started) (H : Type) (enc : TypeId × Value → H) :
    ReturnsInHanded {} Try.checked os 5 .any (Rows.fnExactDuelTrueSpec.pre6 enc Try.prog Try.f5 Rows.fnExactDuelTrueRow.domain false) (Rows.fnExactDuelTrueSpec.post enc Try.prog Try.f5 false true false false) := by
  refine returnsInHanded_of_change (C := Try.checked) own started (by kernel_rfl) Try.func5
    (ChangeSpec.witness6 (enc := enc) (C := Try.checked) false ⟨#[], #[.slice none 0 0, .agg #[.int .i64 0, .slice none 0 0, .slice none 0 0, .slice none 0 0]], []⟩ 8 (by kernel_rfl) (by kernel_rfl) (by kernel_rfl) (by kernel_rfl)) ?_
  intro W base args ds gs before hval0 hW hcnd _
  have hval : ∀ (j : Nat) t v, Try.f5.params[j]? = some t → args[j]? = some v → Value.okWide Try.prog W .any base t v := hval0
  have hW' := hW
  obtain ⟨p, q, hA0, hV, rfl, hfz, hnd⟩ := hW
  have hA : DataW.TrodAll enc Try.prog W 0 (fun _ => true) true Try.f5.params.toList args.toList ds p := hA0
  rw [Try.params5] at hA hval
  obtain ⟨v0, vs0, d0, ds0, p0, q0, hargs, rfl, rfl, h0, r0⟩ := trodAll_cons hA
  obtain ⟨v1, vs1, d1, ds1, p1, q1, rfl, rfl, rfl, h1, r1⟩ := trodAll_cons r0
  obtain ⟨rfl, rfl, rfl⟩ := trodAll_nil r1
  obtain rfl : args = #[v0, v1] := by cases args; simp_all
  obtain ⟨rfl, rfl⟩ := trodVars_none hV
  have lt0 : ∀ x ∈ p0, x.block < W.heap.size := by obtain ⟨m, hm⟩ := h0; exact DataW.trod_lt m _ _ _ hm
  obtain ⟨x0, A0, F0⟩ := PM.read_arg X.cx_ok X.cx_read (X.cx_at24) rfl (hval 0 24 v0 rfl rfl) h0
  obtain ⟨k0, e0, F0⟩ := (show ∃ k, [.sl 24] = [k] ∧ PM.FitV X.cx k x0 from F0)
  cases e0
  obtain ⟨a1, rfl, q1, b1⟩ := PM.fit_sl (X.cx_at24) rfl F0
  obtain ⟨n1, rfl⟩ := PM.ak_ints q1
  have lt1 : ∀ x ∈ p1, x.block < W.heap.size := by obtain ⟨m, hm⟩ := h1; exact DataW.trod_lt m _ _ _ hm
  obtain ⟨x1, A1, F1⟩ := PM.read_arg X.cx_ok X.cx_read (X.cx_at64) rfl (hval 1 64 v1 rfl rfl) h1
  obtain ⟨cs1, rfl, E1⟩ := (show ∃ cs, x1 = .agg cs ∧ PM.All2 (PM.FitV X.cx) [.int .i64, .sl 39, .sl 62, .sl 46] cs from F1)
  obtain ⟨y1_0, ys1_0, rfl, G1_0, E1_0⟩ := E1.cons_inv
  obtain ⟨n2, rfl, b2⟩ := G1_0
  obtain ⟨y1_1, ys1_1, rfl, G1_1, E1_1⟩ := E1_0.cons_inv
  obtain ⟨a3, rfl, q3, b3⟩ := PM.fit_sl (X.cx_at39) rfl G1_1
  obtain ⟨n3, rfl⟩ := PM.ak_vecs q3
  obtain ⟨y1_2, ys1_2, rfl, G1_2, E1_2⟩ := E1_1.cons_inv
  obtain ⟨a4, rfl, q4, b4⟩ := PM.fit_sl (X.cx_at62) rfl G1_2
  obtain ⟨n4, rfl⟩ := PM.ak_rows q4
  obtain ⟨y1_3, ys1_3, rfl, G1_3, E1_3⟩ := E1_2.cons_inv
  obtain ⟨a5, rfl, q5, b5⟩ := PM.fit_sl (X.cx_at46) rfl G1_3
  obtain ⟨n5, rfl⟩ := PM.ak_rows q5
  cases E1_3.nil_inv
  clear hA0 hval0
  have weq : ∀ (c : X.laws_FnExactDuelTrue_T) (k : PM.V → PM.R), X.laws_FnExactDuelTrue_w c [.arr (.ints 3 .i64 n1), .agg [.int .i64 n2, .arr (.vecs 354 3 n3), .arr (.rows 285 n4), .arr (.rows 195 n5)]] k = c n1 n2 n3 n4 n5 (fun r0 => k (.bool r0)) := fun c k => rfl
  have hd : X.laws_FnExactDuelTrue_w (X.laws_FnExactDuelTrue PM.std) [.arr (.ints 3 .i64 n1), .agg [.int .i64 n2, .arr (.vecs 354 3 n3), .arr (.rows 285 n4), .arr (.rows 195 n5)]] some = some (.bool true) := (weq _ _).trans (X.DuelTrue_true n1 n2 n3 n4 n5 b1 b2 b3 b4 b5 (fun r0 => some (.bool r0)))
  refine (PM.law_calls X.laws_FnExactDuelTrue_g rfl hd (ds := [.arr (.ints 3 .i64 n1), .agg [.int .i64 n2, .arr (.vecs 354 3 n3), .arr (.rows 285 n4), .arr (.rows 195 n5)]]) (w := W) (ws := [v0, v1]) ⟨A0, A1, trivial⟩).mono fun e W' ⟨he, bel⟩ => ?_
  subst he
  exact ⟨_, rfl, _, _, _, [], _, [], hW', trodAll_mk1 (shut_bool Try.underlying4 _), (trodAll_cons_mk (Below.trod laidOut (by kernel_rfl) (of_decide_eq_true (by kernel_rfl)) h0 bel lt0) (trodAll_cons_mk (Below.trod laidOut (by kernel_rfl) (of_decide_eq_true (by kernel_rfl)) h1 bel lt1) trodAll_mk0)), rfl, bel.frame _, fun h => by cases h⟩

theorem closed : joinedFacts Try.prog 5 Try.f5 Rows.fnExactDuelTrueSpec Rows.fnExactDuelTrueRow = true := by
  unfold joinedFacts
  rw [X.may_enter, X.lifts_final, X.make_cut]
  kernel_rfl

theorem over : Rows.fnExactDuelTrueRow.holds Try.pinned (OpenSpec.ofChange Rows.fnExactDuelTrueSpec) :=
  OpenClaim.holds_of_wide 5 Try.f5 rfl rfl rfl rfl rfl rfl rfl ⟨rfl, rfl, rfl, rfl, rfl⟩ rfl rfl rfl rfl rfl (by kernel_rfl) Try.func5 closed
    (of_decide_eq_true (by kernel_rfl)) (by unfold Func.isWrapper; first | (rw [if_pos (by decide +kernel)]; kernel_rfl) | (rw [if_neg (by decide +kernel)]; exact ⟨rfl, rfl⟩))
    (fun os started H enc _ => lifted os started H enc)

theorem proved : Rows.FnExactDuelTrueSaid := over
end Go.Proofs.Ytlcgddghildedaa.fnExactDuelTrue

