/- For every input the law FnExactFamTrue returns true; no condition. -/
import Derived.Test.YtlcgddghildedaaRows
import Derived.Test.YtlcgddghildedaaNFt
import Derived.Test.YtlcgddghildedaaFx5
import Derived.WalkKit
import Derived.ProofKit
import Derived.OpenShut
import Derived.ShutString
import Derived.ChangeOld
import Derived.Below
set_option linter.unusedVariables false
set_option linter.unusedSimpArgs false
namespace Go.Proofs.Ytlcgddghildedaa.fnExactFamTrue
open Go.ChangeShapes Go.WideShapes Go.ChangeAt Go.RowKit
set_option linter.unusedVariables false

theorem own : ownKnob Try.prog.godebug = none := by kernel_rfl
theorem laidOut : laidOutB Try.prog = true := by kernel_rfl

set_option maxRecDepth 100000 in
theorem lifted (os : Os) (started : os.Started) (H : Type) (enc : TypeId × Value → H) :
    ReturnsInHanded {} Try.checked os 13 .any (Rows.fnExactFamTrueSpec.pre6 enc Try.prog Try.f13 Rows.fnExactFamTrueRow.domain false) (Rows.fnExactFamTrueSpec.post enc Try.prog Try.f13 false true false false) := by
  refine returnsInHanded_of_change (C := Try.checked) own started (by kernel_rfl) Try.func13
    (ChangeSpec.witness6 (enc := enc) (C := Try.checked) false ⟨#[], #[.slice none 0 0, .agg #[.int .i64 0, .int .i64 0, .int .i64 0, .bool false, .slice none 0 0, .slice none 0 0, .slice none 0 0, .slice none 0 0, .slice none 0 0, .slice none 0 0]], []⟩ 8 (by kernel_rfl) (by kernel_rfl) (by kernel_rfl) (by kernel_rfl)) ?_
  intro W base args ds gs before hval0 hW hcnd _
  have hval : ∀ (j : Nat) t v, Try.f13.params[j]? = some t → args[j]? = some v → Value.okWide Try.prog W .any base t v := hval0
  have hW' := hW
  obtain ⟨p, q, hA0, hV, rfl, hfz, hnd⟩ := hW
  have hA : DataW.TrodAll enc Try.prog W 0 (fun _ => true) true Try.f13.params.toList args.toList ds p := hA0
  rw [Try.params13] at hA hval
  obtain ⟨v0, vs0, d0, ds0, p0, q0, hargs, rfl, rfl, h0, r0⟩ := trodAll_cons hA
  obtain ⟨v1, vs1, d1, ds1, p1, q1, rfl, rfl, rfl, h1, r1⟩ := trodAll_cons r0
  obtain ⟨rfl, rfl, rfl⟩ := trodAll_nil r1
  obtain rfl : args = #[v0, v1] := by cases args; simp_all
  obtain ⟨rfl, rfl⟩ := trodVars_none hV
  have lt0 : ∀ x ∈ p0, x.block < W.heap.size := by obtain ⟨m, hm⟩ := h0; exact DataW.trod_lt m _ _ _ hm
  obtain ⟨x0, A0, F0⟩ := PM.read_arg X.cx_ok X.cx_read (X.cx_at24) rfl (hval 0 24 v0 rfl rfl) h0
  obtain ⟨k0, e0, F0⟩ := (show ∃ k, [.sl 24] = [k] ∧ PM.FitV X.cx k x0 from F0)
  cases e0
  obtain ⟨a1, rfl, q1, b1⟩ := PM.fit_sl (X.cx_at24) rfl F0
  obtain ⟨n1, rfl⟩ := PM.ak_ints q1
  have lt1 : ∀ x ∈ p1, x.block < W.heap.size := by obtain ⟨m, hm⟩ := h1; exact DataW.trod_lt m _ _ _ hm
  obtain ⟨x1, A1, F1⟩ := PM.read_arg X.cx_ok X.cx_read (X.cx_at94) rfl (hval 1 94 v1 rfl rfl) h1
  obtain ⟨cs1, rfl, E1⟩ := (show ∃ cs, x1 = .agg cs ∧ PM.All2 (PM.FitV X.cx) [.int .i64, .int .i64, .int .i64, .bool, .sl 24, .sl 90, .sl 91, .sl 24, .sl 90, .sl 92] cs from F1)
  obtain ⟨y1_0, ys1_0, rfl, G1_0, E1_0⟩ := E1.cons_inv
  obtain ⟨n2, rfl, b2⟩ := G1_0
  obtain ⟨y1_1, ys1_1, rfl, G1_1, E1_1⟩ := E1_0.cons_inv
  obtain ⟨n3, rfl, b3⟩ := G1_1
  obtain ⟨y1_2, ys1_2, rfl, G1_2, E1_2⟩ := E1_1.cons_inv
  obtain ⟨n4, rfl, b4⟩ := G1_2
  obtain ⟨y1_3, ys1_3, rfl, G1_3, E1_3⟩ := E1_2.cons_inv
  obtain ⟨n5, rfl⟩ := G1_3
  obtain ⟨y1_4, ys1_4, rfl, G1_4, E1_4⟩ := E1_3.cons_inv
  obtain ⟨a6, rfl, q6, b6⟩ := PM.fit_sl (X.cx_at24) rfl G1_4
  obtain ⟨n6, rfl⟩ := PM.ak_ints q6
  obtain ⟨y1_5, ys1_5, rfl, G1_5, E1_5⟩ := E1_4.cons_inv
  obtain ⟨a7, rfl, q7, b7⟩ := PM.fit_sl (X.cx_at90) rfl G1_5
  obtain ⟨n7, rfl⟩ := PM.ak_vecs q7
  obtain ⟨y1_6, ys1_6, rfl, G1_6, E1_6⟩ := E1_5.cons_inv
  obtain ⟨a8, rfl, q8, b8⟩ := PM.fit_sl (X.cx_at91) rfl G1_6
  obtain ⟨n8, rfl⟩ := PM.ak_vecs q8
  obtain ⟨y1_7, ys1_7, rfl, G1_7, E1_7⟩ := E1_6.cons_inv
  obtain ⟨a9, rfl, q9, b9⟩ := PM.fit_sl (X.cx_at24) rfl G1_7
  obtain ⟨n9, rfl⟩ := PM.ak_ints q9
  obtain ⟨y1_8, ys1_8, rfl, G1_8, E1_8⟩ := E1_7.cons_inv
  obtain ⟨a10, rfl, q10, b10⟩ := PM.fit_sl (X.cx_at90) rfl G1_8
  obtain ⟨n10, rfl⟩ := PM.ak_vecs q10
  obtain ⟨y1_9, ys1_9, rfl, G1_9, E1_9⟩ := E1_8.cons_inv
  obtain ⟨a11, rfl, q11, b11⟩ := PM.fit_sl (X.cx_at92) rfl G1_9
  obtain ⟨n11, rfl⟩ := PM.ak_rows q11
  cases E1_9.nil_inv
  clear hA0 hval0
  have weq : ∀ (c : X.laws_FnExactFamTrue_T) (k : PM.V → PM.R), X.laws_FnExactFamTrue_w c [.arr (.ints 3 .i64 n1), .agg [.int .i64 n2, .int .i64 n3, .int .i64 n4, .bool n5, .arr (.ints 3 .i64 n6), .arr (.vecs 297 2 n7), .arr (.vecs 299 3 n8), .arr (.ints 3 .i64 n9), .arr (.vecs 297 2 n10), .arr (.rows 295 n11)]] k = c n1 n2 n3 n4 n5 n6 n7 n8 n9 n10 n11 (fun r0 => k (.bool r0)) := fun c k => rfl
  have hd : X.laws_FnExactFamTrue_w (X.laws_FnExactFamTrue PM.std) [.arr (.ints 3 .i64 n1), .agg [.int .i64 n2, .int .i64 n3, .int .i64 n4, .bool n5, .arr (.ints 3 .i64 n6), .arr (.vecs 297 2 n7), .arr (.vecs 299 3 n8), .arr (.ints 3 .i64 n9), .arr (.vecs 297 2 n10), .arr (.rows 295 n11)]] some = some (.bool true) := (weq _ _).trans (X.FamTrue_true n1 n2 n3 n4 n5 n6 n7 n8 n9 n10 n11 b1 b2 b3 b4 b6 b7 b8 b9 b10 b11 (fun r0 => some (.bool r0)))
  refine (PM.law_calls X.laws_FnExactFamTrue_g rfl hd (ds := [.arr (.ints 3 .i64 n1), .agg [.int .i64 n2, .int .i64 n3, .int .i64 n4, .bool n5, .arr (.ints 3 .i64 n6), .arr (.vecs 297 2 n7), .arr (.vecs 299 3 n8), .arr (.ints 3 .i64 n9), .arr (.vecs 297 2 n10), .arr (.rows 295 n11)]]) (w := W) (ws := [v0, v1]) ⟨A0, A1, trivial⟩).mono fun e W' ⟨he, bel⟩ => ?_
  subst he
  exact ⟨_, rfl, _, _, _, [], _, [], hW', trodAll_mk1 (shut_bool Try.underlying4 _), (trodAll_cons_mk (Below.trod laidOut (by kernel_rfl) (of_decide_eq_true (by kernel_rfl)) h0 bel lt0) (trodAll_cons_mk (Below.trod laidOut (by kernel_rfl) (of_decide_eq_true (by kernel_rfl)) h1 bel lt1) trodAll_mk0)), rfl, bel.frame _, fun h => by cases h⟩

theorem closed : joinedFacts Try.prog 13 Try.f13 Rows.fnExactFamTrueSpec Rows.fnExactFamTrueRow = true := by
  unfold joinedFacts
  rw [X.may_enter, X.lifts_final, X.make_cut]
  kernel_rfl

theorem over : Rows.fnExactFamTrueRow.holds Try.pinned (OpenSpec.ofChange Rows.fnExactFamTrueSpec) :=
  OpenClaim.holds_of_wide 13 Try.f13 rfl rfl rfl rfl rfl rfl rfl ⟨rfl, rfl, rfl, rfl, rfl⟩ rfl rfl rfl rfl rfl (by kernel_rfl) Try.func13 closed
    (of_decide_eq_true (by kernel_rfl)) (by unfold Func.isWrapper; first | (rw [if_pos (by decide +kernel)]; kernel_rfl) | (rw [if_neg (by decide +kernel)]; exact ⟨rfl, rfl⟩))
    (fun os started H enc _ => lifted os started H enc)

theorem proved : Rows.FnExactFamTrueSaid := over
end Go.Proofs.Ytlcgddghildedaa.fnExactFamTrue

