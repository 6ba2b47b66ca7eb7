/- Models of the functions, or plain laws about them; each theorem states its own conditions. -/
import Derived.Test.YtlcgddghildedaaL4
set_option linter.unusedVariables false
set_option linter.unusedSimpArgs false
namespace PM
open Go RowKit

/-! ## A call that sorts an owned slice of rows in place -/
def spSrt (c : Nat) (g : List V → (V → R) → R) : SpT := fun _ vs objs k => match vs with
  | [.sref o, .func f []] => match Nat.beq f c, find objs o with
    | true, some (.arr fr (.rows t l)) => g [.arr (.rows t l)] fun r => match r with
      | .arr (.rows u m) => match Nat.beq u t with
        | true => k (.tup []) [] [(o, .arr fr (.rows t m))]
        | _ => none
      | _ => none
    | _, _ => none
  | _ => none
def SrtRows (P : Program) (cx : Cx) (f c : FuncId) (g : List V → (V → R) → R) : Prop := ∀ t l k r, g [.arr (.rows t l)] k = some r → ∃ m, k (.arr (.rows t m)) = some r ∧ m.length = l.length ∧
  ∀ sh, shAK cx (.rows t) = some sh → ∀ w v xs, w.ownsRow 0 t sh.length v l.length xs → (∀ i j, i < l.length → j < sh.length → sh.getD j .bool = .int .i64 → xs[i * sh.length + j]? = some (.int .i64 (asInt (cOf l i j)))) → (∀ i j, i < l.length → j < sh.length → ∃ u, xs[i * sh.length + j]? = some u ∧ u.oneCell' = true) →
    Calls P f #[v, .func (.func c) #[] #[]] w fun e w' => e = .returned (.tuple #[]) ∧ w.grownBy w' v.ownBlock ∧ ∃ ys, w'.ownsRow 0 t sh.length v l.length ys ∧
      ∃ π : Nat → Nat, ∀ i, i < l.length → π i < l.length ∧ m.getD i [] = l.getD (π i) [] ∧ ∀ j, j < sh.length → ys[i * sh.length + j]? = xs[π i * sh.length + j]?

section
variable {P : Program} {cx : Cx} {F : Fr} {ι : Im} {w w' : World} {objs : Obs}
theorem spSrt_ok {f c : FuncId} {g : List V → (V → R) → R} (h : SrtRows P cx f c g) : SpecOk P cx f (spSrt c g) := by
  intro key vs objs k r hr
  unfold spSrt at hr
  split at hr
  case h_2 => cases hr
  rename_i o f'
  split at hr
  case h_2 => cases hr
  rename_i fr t l hf ho
  have hf := Nat.eq_of_beq_eq_true hf
  subst hf
  obtain ⟨m, h1, h2, h3⟩ := h _ _ _ _ hr
  simp only [Nat.beq_refl] at h1
  refine ⟨_, _, _, h1, fun objs' F ι w ws hag H hfr hv => ?_⟩
  match ws, hv with
  | [v, vf], ⟨hv1, hv2, _⟩ =>
    have ho' : find objs' o = some (.arr fr (.rows t l)) := by rw [hag (.sref o) (by simp) o (by simp [refs1])]; exact ho
    obtain ⟨ob, e1, e2⟩ := hv1
    rw [ho'] at e1; cases e1
    have hxv : v = ι.sv o := e2 _ _ rfl
    obtain ⟨lf, rfl, hlf⟩ := hv2
    match lf, hlf with
    | [], _ =>
      obtain ⟨sh, xs, p1, p2, p3, p4, p5, p6⟩ := H.obok o _ ho'
      have p4' : w.ownsRow 0 t sh.length v l.length xs := by rw [hxv]; exact p4
      refine (h3 sh p1 w v xs p4' (fun i j hi hj hk => by
        obtain ⟨cv, c1, c2⟩ := p6 i j hi hj
        rw [hk] at c2
        rw [c1]
        cases c2
        rfl) (fun i j hi hj => by
        obtain ⟨cv, c1, c2⟩ := p6 i j hi hj
        exact ⟨cv, c1, c2.one⟩)).mono fun e w' hq => ?_
      obtain ⟨rfl, hgb, ys, hy, π, hπ⟩ := hq
      have hqb : ∀ b', v.ownBlock = some b' → ι.blk o = some b' := fun b' h' => by rw [p5, ← hxv]; exact h'
      obtain ⟨H2, E2⟩ := Heap.change (d := []) (κ := o) (ob' := .arr fr (.rows t m)) (row := v.ownBlock) (w' := w') (ι' := ι) H rfl (fun _ _ h' => by simp [find_nil] at h') rfl
        (fun b' h' => ⟨o, _, ho', trivial, hqb b' h', .inl rfl⟩) (fun _ _ _ _ => ⟨rfl, rfl⟩)
        (fun ob1 h' => by
          rw [ho'] at h'
          cases h'
          exact ⟨fr, _, rfl, rfl, rfl, h2⟩)
        (fun b' h' => ⟨Nat.lt_of_lt_of_le (H.own o _ b' ho' trivial h').2 hgb.size, .inl (by rw [hxv, ← p5]; exact h')⟩)
        hgb.size hgb.os hgb.tape hgb.output (fun b' h' hr => hgb.block b' h' fun e => hr e.symm)
        (fun a1 b' h' hbk => by
          cases h'
          exact H.fresh o _ b' ho' hbk)
        (fun e => by
          refine ⟨sh, ys, p1, p2, fun x hx => ?_, ?_, p5, fun i j hi hj => ?_⟩
          · obtain ⟨i, hi, rfl⟩ := List.getElem_of_mem (show x ∈ m from hx)
            have hil : i < l.length := by omega
            obtain ⟨q1, q2, _⟩ := hπ i hil
            have e3 : m[i] = l.getD (π i) [] := by rw [← q2, List.getD_eq_getElem?_getD, List.getElem?_eq_getElem hi]; rfl
            rw [e3, List.getD_eq_getElem?_getD, List.getElem?_eq_getElem q1]
            exact p3 _ (List.getElem_mem q1)
          · have : w'.ownsRow 0 t sh.length (ι.sv o) m.length ys := by rw [h2, ← hxv]; exact hy
            exact this
          · have hil : i < l.length := by
              have : i < m.length := hi
              omega
            obtain ⟨q1, q2, q3⟩ := hπ i hil
            obtain ⟨cv, c1, c2⟩ := p6 (π i) j q1 hj
            refine ⟨cv, by rw [q3 j hj]; exact c1, ?_⟩
            have e3 : cOf (rowsOf (.rows t m)) i j = cOf (rowsOf (.rows t l)) (π i) j := by
              show cAt (m.getD i []) j = cAt (l.getD (π i) []) j
              rw [q2]
            rw [e3]
            exact c2.mono fun b hb => ⟨⟨(e.1 b hb.1).1, unfs (e.1 b hb.1).2 hb.2⟩, (e.1 b hb.1).2⟩)
      exact ⟨.tuple #[], ι, rfl, by simpa using H2, by simpa using E2, ⟨[], rfl, trivial⟩⟩
end
end PM
