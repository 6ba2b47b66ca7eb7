/- For every input the law FnExactFamSerial returns true; no condition. -/
import Derived.Test.YtlcgddghildedaaRows
import Derived.Test.YtlcgddghildedaaNW6
import Derived.Test.YtlcgddghildedaaFx5
import Derived.WalkKit
import Derived.ProofKit
import Derived.OpenShut
import Derived.ShutString
import Derived.ChangeOld
import Derived.Below
set_option linter.unusedVariables false
set_option linter.unusedSimpArgs false
namespace Go.Proofs.Ytlcgddghildedaa.fnExactFamSerial
open Go.ChangeShapes Go.WideShapes Go.ChangeAt Go.RowKit
set_option linter.unusedVariables false

theorem own : ownKnob Try.prog.godebug = none := by kernel_rfl
theorem laidOut : laidOutB Try.prog = true := by kernel_rfl

set_option maxRecDepth 100000 in
theorem lifted (os : Os) (started : os.Started) (H : Type) (enc : TypeId × Value → H) :
    ReturnsInHanded {} Try.checked os 20 .any (Rows.fnExactFamSerialSpec.pre6 enc Try.prog Try.f20 Rows.fnExactFamSerialRow.domain false) (Rows.fnExactFamSerialSpec.post enc Try.prog Try.f20 false true false false) := by
  refine returnsInHanded_of_change (C := Try.checked) own started (by kernel_rfl) Try.func20
    (ChangeSpec.witness6 (enc := enc) (C := Try.checked) false ⟨#[], #[.agg #[.slice none 0 0, .slice none 0 0, .slice none 0 0, .slice none 0 0, .slice none 0 0], .slice none 0 0], []⟩ 8 (by kernel_rfl) (by kernel_rfl) (by kernel_rfl) (by kernel_rfl)) ?_
  intro W base args ds gs before hval0 hW hcnd _
  have hval : ∀ (j : Nat) t v, Try.f20.params[j]? = some t → args[j]? = some v → Value.okWide Try.prog W .any base t v := hval0
  have hW' := hW
  obtain ⟨p, q, hA0, hV, rfl, hfz, hnd⟩ := hW
  have hA : DataW.TrodAll enc Try.prog W 0 (fun _ => true) true Try.f20.params.toList args.toList ds p := hA0
  rw [Try.params20] at hA hval
  obtain ⟨v0, vs0, d0, ds0, p0, q0, hargs, rfl, rfl, h0, r0⟩ := trodAll_cons hA
  obtain ⟨v1, vs1, d1, ds1, p1, q1, rfl, rfl, rfl, h1, r1⟩ := trodAll_cons r0
  obtain ⟨rfl, rfl, rfl⟩ := trodAll_nil r1
  obtain rfl : args = #[v0, v1] := by cases args; simp_all
  obtain ⟨rfl, rfl⟩ := trodVars_none hV
  have lt0 : ∀ x ∈ p0, x.block < W.heap.size := by obtain ⟨m, hm⟩ := h0; exact DataW.trod_lt m _ _ _ hm
  obtain ⟨x0, A0, F0⟩ := PM.read_arg X.cx_ok X.cx_read (X.cx_at114) rfl (hval 0 114 v0 rfl rfl) h0
  obtain ⟨cs0, rfl, E0⟩ := (show ∃ cs, x0 = .agg cs ∧ PM.All2 (PM.FitV X.cx) [.sl 24, .sl 24, .sl 90, .sl 112, .sl 24] cs from F0)
  obtain ⟨y0_0, ys0_0, rfl, G0_0, E0_0⟩ := E0.cons_inv
  obtain ⟨a1, rfl, q1, b1⟩ := PM.fit_sl (X.cx_at24) rfl G0_0
  obtain ⟨n1, rfl⟩ := PM.ak_ints q1
  obtain ⟨y0_1, ys0_1, rfl, G0_1, E0_1⟩ := E0_0.cons_inv
  obtain ⟨a2, rfl, q2, b2⟩ := PM.fit_sl (X.cx_at24) rfl G0_1
  obtain ⟨n2, rfl⟩ := PM.ak_ints q2
  obtain ⟨y0_2, ys0_2, rfl, G0_2, E0_2⟩ := E0_1.cons_inv
  obtain ⟨a3, rfl, q3, b3⟩ := PM.fit_sl (X.cx_at90) rfl G0_2
  obtain ⟨n3, rfl⟩ := PM.ak_vecs q3
  obtain ⟨y0_3, ys0_3, rfl, G0_3, E0_3⟩ := E0_2.cons_inv
  obtain ⟨a4, rfl, q4, b4⟩ := PM.fit_sl (X.cx_at112) rfl G0_3
  obtain ⟨n4, rfl⟩ := PM.ak_rows q4
  obtain ⟨y0_4, ys0_4, rfl, G0_4, E0_4⟩ := E0_3.cons_inv
  obtain ⟨a5, rfl, q5, b5⟩ := PM.fit_sl (X.cx_at24) rfl G0_4
  obtain ⟨n5, rfl⟩ := PM.ak_ints q5
  cases E0_4.nil_inv
  have lt1 : ∀ x ∈ p1, x.block < W.heap.size := by obtain ⟨m, hm⟩ := h1; exact DataW.trod_lt m _ _ _ hm
  obtain ⟨x1, A1, F1⟩ := PM.read_arg X.cx_ok X.cx_read (X.cx_at24) rfl (hval 1 24 v1 rfl rfl) h1
  obtain ⟨k1, e1, F1⟩ := (show ∃ k, [.sl 24] = [k] ∧ PM.FitV X.cx k x1 from F1)
  cases e1
  obtain ⟨a6, rfl, q6, b6⟩ := PM.fit_sl (X.cx_at24) rfl F1
  obtain ⟨n6, rfl⟩ := PM.ak_ints q6
  clear hA0 hval0
  have weq : ∀ (c : X.laws_FnExactFamSerial_T) (k : PM.V → PM.R), X.laws_FnExactFamSerial_w c [.agg [.arr (.ints 3 .i64 n1), .arr (.ints 3 .i64 n2), .arr (.vecs 297 2 n3), .arr (.rows 309 n4), .arr (.ints 3 .i64 n5)], .arr (.ints 3 .i64 n6)] k = c n1 n2 n3 n4 n5 n6 (fun r0 => k (.bool r0)) := fun c k => rfl
  have hd : X.laws_FnExactFamSerial_w X.laws_FnExactFamSerialX [.agg [.arr (.ints 3 .i64 n1), .arr (.ints 3 .i64 n2), .arr (.vecs 297 2 n3), .arr (.rows 309 n4), .arr (.ints 3 .i64 n5)], .arr (.ints 3 .i64 n6)] some = some (.bool true) := (weq _ _).trans (X.FamSerial_true n1 n2 n3 n4 n5 n6 b1 b2 b3 b4 b5 b6 (fun r0 => some (.bool r0)))
  refine (PM.law_calls X.laws_FnExactFamSerialX_g rfl hd (ds := [.agg [.arr (.ints 3 .i64 n1), .arr (.ints 3 .i64 n2), .arr (.vecs 297 2 n3), .arr (.rows 309 n4), .arr (.ints 3 .i64 n5)], .arr (.ints 3 .i64 n6)]) (w := W) (ws := [v0, v1]) ⟨A0, A1, trivial⟩).mono fun e W' ⟨he, bel⟩ => ?_
  subst he
  exact ⟨_, rfl, _, _, _, [], _, [], hW', trodAll_mk1 (shut_bool Try.underlying4 _), (trodAll_cons_mk (Below.trod laidOut (by kernel_rfl) (of_decide_eq_true (by kernel_rfl)) h0 bel lt0) (trodAll_cons_mk (Below.trod laidOut (by kernel_rfl) (of_decide_eq_true (by kernel_rfl)) h1 bel lt1) trodAll_mk0)), rfl, bel.frame _, fun h => by cases h⟩

theorem closed : joinedFacts Try.prog 20 Try.f20 Rows.fnExactFamSerialSpec Rows.fnExactFamSerialRow = true := by
  unfold joinedFacts
  rw [X.may_enter, X.lifts_final, X.make_cut]
  kernel_rfl

theorem over : Rows.fnExactFamSerialRow.holds Try.pinned (OpenSpec.ofChange Rows.fnExactFamSerialSpec) :=
  OpenClaim.holds_of_wide 20 Try.f20 rfl rfl rfl rfl rfl rfl rfl ⟨rfl, rfl, rfl, rfl, rfl⟩ rfl rfl rfl rfl rfl (by kernel_rfl) Try.func20 closed
    (of_decide_eq_true (by kernel_rfl)) (by unfold Func.isWrapper; first | (rw [if_pos (by decide +kernel)]; kernel_rfl) | (rw [if_neg (by decide +kernel)]; exact ⟨rfl, rfl⟩))
    (fun os started H enc _ => lifted os started H enc)

theorem proved : Rows.FnExactFamSerialSaid := over
end Go.Proofs.Ytlcgddghildedaa.fnExactFamSerial

