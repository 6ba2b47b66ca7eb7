/- Models of the functions, or plain laws about them; each theorem states its own conditions. -/
import Derived.Test.YtnkgcegeinemjaaL3
import Derived.Test.YtnkgcegeinemjaaProg
import Derived.ProofKit
import Derived.WalkKit
import Derived.Below
import Derived.KernelRfl
set_option linter.unusedVariables false
set_option linter.unusedSimpArgs false
open Go Go.Proofs
namespace X
theorem back_walk0 (a b p t d n : Int) (hn : (n == 0) = true) (b1 b2 : Option Addr) (n1 c1 n2 c2 : Nat) (w : World) :
    Calls Try.prog 132 #[.agg #[.int .i64 a, .int .i64 b, .int .i64 p, .int .i64 t, .int .i64 d, .slice b1 n1 c1, .slice b2 n2 c2], .int .i64 n] w fun e w' =>
      e = .returned (.agg #[.int .i64 a, .int .i64 b, .int .i64 8, .int .i64 0, .int .i64 d, .slice b1 n1 c1, .slice b2 n2 c2]) ∧ Go.RowKit.Below w.heap.size w w' := by
  go_enter Try.func132, Try.ntmps132
  go_wp2
  exact bodyPost_ret (v := .agg #[.int .i64 a, .int .i64 b, .int .i64 8, .int .i64 0, .int .i64 d, .slice b1 n1 c1, .slice b2 n2 c2]) (by simp [results, Try.results132, go_sem]) rfl ⟨rfl, ((Go.RowKit.Below.refl _ _).alloc (Nat.le_refl _) _).alloc (by simp) _⟩
theorem back_walk1 (a b p t d n : Int) (hn : (n == 0) = false) (b1 b2 : Option Addr) (n1 c1 n2 c2 : Nat) (w : World) :
    Calls Try.prog 132 #[.agg #[.int .i64 a, .int .i64 b, .int .i64 p, .int .i64 t, .int .i64 d, .slice b1 n1 c1, .slice b2 n2 c2], .int .i64 n] w fun e w' =>
      e = .returned (.agg #[.int .i64 a, .int .i64 b, .int .i64 7, .int .i64 (IntKind.i64.wrap (n - 1)), .int .i64 d, .slice b1 n1 c1, .slice b2 n2 c2]) ∧ Go.RowKit.Below w.heap.size w w' := by
  rw [IntWalk.i64_left]
  go_enter Try.func132, Try.ntmps132
  go_wp2
  exact bodyPost_ret (v := .agg #[.int .i64 a, .int .i64 b, .int .i64 7, .int .i64 (RowKit.wrap64 (n - 1)), .int .i64 d, .slice b1 n1 c1, .slice b2 n2 c2]) (by simp [results, Try.results132, go_sem]) rfl ⟨rfl, ((Go.RowKit.Below.refl _ _).alloc (Nat.le_refl _) _).alloc (by simp) _⟩
def l10Back_t (A : PM.Prims) (vs : List PM.V) (k : PM.V → PM.R) : PM.R :=
  match vs with
  | [.agg [.int .i64 a, .int .i64 b, .int .i64 _, .int .i64 _, .int .i64 d, .sref x, .sref y], .int .i64 n] =>
    match A.eq n 0 with
    | true => k (.agg [.int .i64 a, .int .i64 b, .int .i64 8, .int .i64 0, .int .i64 d, .sref x, .sref y])
    | false => k (.agg [.int .i64 a, .int .i64 b, .int .i64 7, .int .i64 (A.sub .i64 n 1), .int .i64 d, .sref x, .sref y])
  | _ => none
theorem l10Back_T : PM.TOk Try.prog 132 (l10Back_t PM.std) := by
  intro vs k r h
  unfold l10Back_t at h
  split at h
  case h_2 => cases h
  rename_i a b p t d x y n
  have key : ∀ (ρ : PM.V → Value → Prop), (∀ i n x, ρ (.int i n) x ↔ x = .int i n) → (∀ o x, ρ (.sref o) x → ∃ b n c, x = .slice b n c) → ∀ ws : List Value, PM.All2 (PM.lft ρ) [.agg [.int .i64 a, .int .i64 b, .int .i64 p, .int .i64 t, .int .i64 d, .sref x, .sref y], .int .i64 n] ws →
      ∃ b1 n1 c1 b2 n2 c2, ρ (.sref x) (.slice b1 n1 c1) ∧ ρ (.sref y) (.slice b2 n2 c2) ∧ ws = [.agg #[.int .i64 a, .int .i64 b, .int .i64 p, .int .i64 t, .int .i64 d, .slice b1 n1 c1, .slice b2 n2 c2], .int .i64 n] := by
    intro ρ hi hs ws hw
    match ws, hw with
    | [v1, v2], ⟨h1, h2, _⟩ =>
      obtain ⟨l, rfl, hl⟩ := h1
      have h2 : v2 = .int .i64 n := (hi _ _ _).1 h2
      subst h2
      match l, hl with
      | [u1, u2, u3, u4, u5, u6, u7], ⟨e1, e2, e3, e4, e5, e6, e7, _⟩ =>
        have e1 : u1 = _ := (hi _ _ _).1 e1
        have e2 : u2 = _ := (hi _ _ _).1 e2
        have e3 : u3 = _ := (hi _ _ _).1 e3
        have e4 : u4 = _ := (hi _ _ _).1 e4
        have e5 : u5 = _ := (hi _ _ _).1 e5
        obtain ⟨b1, n1, c1, rfl⟩ := hs _ _ e6
        obtain ⟨b2, n2, c2, rfl⟩ := hs _ _ e7
        subst e1 e2 e3 e4 e5
        exact ⟨b1, n1, c1, b2, n2, c2, e6, e7, rfl⟩
  split at h
  · rename_i hn
    refine ⟨_, h, fun ρ hi hb ha hs w ws hw => ?_⟩
    obtain ⟨b1, n1, c1, b2, n2, c2, q1, q2, rfl⟩ := key ρ hi hs ws hw
    refine (back_walk0 a b p t d n hn b1 b2 n1 c1 n2 c2 w).mono fun e w' hq => ?_
    exact ⟨_, hq.1, hq.2, _, rfl, (hi _ _ _).2 rfl, (hi _ _ _).2 rfl, (hi _ _ _).2 rfl, (hi _ _ _).2 rfl, (hi _ _ _).2 rfl, q1, q2, trivial⟩
  · rename_i hn
    refine ⟨_, h, fun ρ hi hb ha hs w ws hw => ?_⟩
    obtain ⟨b1, n1, c1, b2, n2, c2, q1, q2, rfl⟩ := key ρ hi hs ws hw
    refine (back_walk1 a b p t d n hn b1 b2 n1 c1 n2 c2 w).mono fun e w' hq => ?_
    exact ⟨_, hq.1, hq.2, _, rfl, (hi _ _ _).2 rfl, (hi _ _ _).2 rfl, (hi _ _ _).2 rfl, (hi _ _ _).2 rfl, (hi _ _ _).2 rfl, q1, q2, trivial⟩
theorem l10Back_gok {cx : PM.Cx} : PM.GOk Try.prog cx 132 ⟨[], fun _ _ => none, some (PM.spT (l10Back_t PM.std))⟩ :=
  PM.GOk.ofS (PM.FnIs.of Try.func132 (by kernel_rfl) (by kernel_rfl)).enter (PM.spT_ok l10Back_T)
end X
