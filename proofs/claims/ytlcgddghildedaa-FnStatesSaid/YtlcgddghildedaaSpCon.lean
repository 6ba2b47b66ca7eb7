/- Models of the functions, or plain laws about them; each theorem states its own conditions. -/
import Derived.Test.YtlcgddghildedaaL4
set_option linter.unusedVariables false
set_option linter.unusedSimpArgs false
namespace PM
open Go RowKit

/-! ## Data and a predicate that knows a box whose first cell is a number: the result is a bool -/
def spCon (c : Nat) (g : List V → (V → R) → R) : SpT := fun _ vs objs k => match vs with
  | [x, .func f [.pbox p 0]] => match Nat.beq f c, find objs p with
    | true, some (.box (.int .i64 s :: _)) => onOpt (closeAs objs [x]) fun ds => match ds with
      | [.arr a] => g [.arr a, .int .i64 s] fun r => match r with
        | .bool b => k (.bool b) [] []
        | _ => none
      | _ => none
    | _, _ => none
  | _ => none
def ConOk (P : Program) (cx : Cx) (f c : FuncId) (g : List V → (V → R) → R) : Prop := ∀ a s k r, g [.arr a, .int .i64 s] k = some r → ∃ b, k (.bool b) = some r ∧
  ∀ w v B, ArrV cx w (fun b => b < w.heap.size) a v → w.cell? ⟨B, 0, none⟩ = some (.int .i64 s) →
    Calls P f #[v, .func (.func c) #[] #[.pointer (some ⟨B, 0, none⟩)]] w fun e w' => e = .returned (.bool b) ∧ Below w.heap.size w w'

section
variable {P : Program} {cx : Cx} {F : Fr} {ι : Im} {w w' : World} {objs : Obs}
theorem spCon_ok {f c : FuncId} {g : List V → (V → R) → R} (h : ConOk P cx f c g) : SpecOk P cx f (spCon c g) := by
  intro key vs objs k r hr
  unfold spCon at hr
  split at hr
  case h_2 => cases hr
  rename_i x f' p
  split at hr
  case h_2 => cases hr
  rename_i s rest hf hp
  have hf := Nat.eq_of_beq_eq_true hf
  subst hf
  obtain ⟨ds, hds, h1⟩ := onOpt_some hr
  split at h1
  case h_2 => cases h1
  rename_i a
  obtain ⟨b, h2, h3⟩ := h _ _ _ _ h1
  refine ⟨_, _, _, h2, fun objs' F ι w ws hag H hfr hv => ?_⟩
  match ws, hv with
  | [v, vf], ⟨hv1, hv2, _⟩ =>
    have hp' : find objs' p = some (.box (.int .i64 s :: rest)) := by rw [hag (.func f' [.pbox p 0]) (by simp) p (by simp [refs1, refsC])]; exact hp
    have hds' : closeAs objs' [x] = some [.arr a] := by
      rw [closeAs_ag (fun u hu κ hκ => hag u (by simp only [List.mem_singleton] at hu; simp [hu]) κ hκ)]; exact hds
    obtain ⟨lf, rfl, hlf⟩ := hv2
    match lf, hlf with
    | [vp], ⟨hvp, _⟩ =>
      obtain ⟨ob, e1, e3⟩ := hvp
      rw [hp'] at e1; cases e1
      obtain ⟨B, hB, rfl⟩ := e3 _ rfl
      obtain ⟨B', lb, T, hB', hcell, hcv⟩ := H.obok p _ hp'
      rw [hB] at hB'; cases hB'
      have hs : w.cell? ⟨B, 0, none⟩ = some (.int .i64 s) := by
        match lb, hcv with
        | u :: us, ⟨hu, _⟩ =>
          have hu : u = .int .i64 s := hu
          subst hu
          simp [World.cell?, hcell]
      have hA : All2 (VA cx w (fun b => b < w.heap.size) [] ⟨fun _ => none, fun _ => Go.undef, fun _ => True⟩) [.arr a] [v] := closeAs_ok H hds' ⟨hv1, trivial⟩
      refine (h3 w v B hA.1 hs).mono fun e w' hq => ?_
      obtain ⟨rfl, hb⟩ := hq
      obtain ⟨H2, E2⟩ := H.grown hb
      exact ⟨.bool b, ι, rfl, by simpa using H2, by simpa using E2, rfl⟩
end
end PM
