/- Models of the functions, or plain laws about them; each theorem states its own conditions. -/
import Derived.Test.YtenbofmnmliopaaPl2
set_option linter.unusedVariables false
set_option linter.unusedSimpArgs false
open Go.Proofs
namespace X
open PM Go

/-- A computation that comes to one value. -/
def Det {α : Type} (f : (α → R) → R) : Prop := ∃ r, ∀ k, f k = k r
def Det2 {α β : Type} (f : (α → β → R) → R) : Prop := ∃ r s, ∀ k, f k = k r s
theorem det_k {α : Type} (x : α) : Det (fun k => k x) := ⟨x, fun _ => rfl⟩
theorem det_bif {α : Type} {c : Bool} {f g : (α → R) → R} (hf : Det f) (hg : Det g) : Det (fun k => bif c then f k else g k) := by
  cases c
  · exact hg
  · exact hf
theorem det2_k {α β : Type} (x : α) (y : β) : Det2 (fun k => k x y) := ⟨x, y, fun _ => rfl⟩
theorem det2_bif {α β : Type} {c : Bool} {f g : (α → β → R) → R} (hf : Det2 f) (hg : Det2 g) : Det2 (fun k => bif c then f k else g k) := by
  cases c
  · exact hg
  · exact hf
theorem det_bind {α γ : Type} {g : (γ → R) → R} (hg : Det g) {f : γ → (α → R) → R} (hf : ∀ x, Det (f x)) : Det (fun k => g fun r => f r k) := by
  obtain ⟨x, hx⟩ := hg
  obtain ⟨y, hy⟩ := hf x
  exact ⟨y, fun k => (hx _).trans (hy k)⟩
theorem det2_bind {α β γ : Type} {g : (γ → R) → R} (hg : Det g) {f : γ → (α → β → R) → R} (hf : ∀ x, Det2 (f x)) : Det2 (fun k => g fun r => f r k) := by
  obtain ⟨x, hx⟩ := hg
  obtain ⟨y, z, hy⟩ := hf x
  exact ⟨y, z, fun k => (hx _).trans (hy k)⟩

theorem SlotNew_true (k : Bool → R) : laws_FnExactSlotNew std k = k true := by
  have e1 : ∀ k : List Int → R, spec_SlotNew std k = k (List.replicate 16 0) := fun k => by simp [spec_SlotNew, spec_SlotNew_f]
  have e2 : ∀ k : List Int → R, impl_SlotNew std k = k (List.replicate 16 0) := fun k => by simp [impl_SlotNew, impl_SlotNew_f]
  have e3 : ∀ k : Int → List Int → R, laws_markIntS std (List.replicate 16 0) 1 k = k 17 (ups 1 16) := fun k => by rw [markIntS_eq] <;> simp
  have e4 : ∀ k : Int → R, laws_heldIntS std (ups 1 16) 1 k = k 17 := fun k => by rw [heldIntS_eq] <;> simp
  have e5 : ∀ k : Bool → R, laws_eqIntS std (List.replicate 16 0) (List.replicate 16 0) k = k true := fun k => by rw [eqIntS_eq] <;> simp
  simp only [laws_FnExactSlotNew, laws_FnExactSlotNew_f, e1, e2, e3, e4, e5]
  simp

theorem within_eq : impl_within std = spec_l1In std := rfl
theorem isKey_eq : impl_isKey std = spec_l15Key std := rfl
theorem isValue_eq : impl_isValue std = spec_l3Val std := rfl
theorem UndoOk_eq : impl_UndoOk std = spec_UndoOk std := rfl
theorem det_in (x a b : Int) : Det (spec_l1In std x a b) := det_bif (det_k _) (det_k _)
theorem det_key (x : Int) : Det (spec_l15Key std x) := det_in x 0 7
theorem det_val (x : Int) : Det (spec_l3Val std x) := det_in x 0 65535
theorem det_UndoOk (a b c : Int) : Det (spec_UndoOk std a b c) := by
  refine det_bif (det_bif (det_k _) (det_k _)) (det_bif ?_ (det_bif ?_ (det_bif (det_bif ?_ (det_k _)) (det_k _))))
  · exact det_bind (det_key _) fun r => det_bif (det_val _) (det_k _)
  · exact det_bind (det_key _) fun r => det_bif (det_k _) (det_k _)
  · exact det_val _
theorem UndoOk_true (aKind aKey aVal : Int) (b1 : IntKind.i64.min ≤ aKind ∧ aKind ≤ IntKind.i64.max) (b2 : IntKind.i64.min ≤ aKey ∧ aKey ≤ IntKind.i64.max) (b3 : IntKind.i64.min ≤ aVal ∧ aVal ≤ IntKind.i64.max) (k : Bool → R) :
    laws_FnExactUndoOk std aKind aKey aVal k = k true := by
  obtain ⟨r, hr⟩ := det_UndoOk aKind aKey aVal
  simp only [laws_FnExactUndoOk, laws_FnExactUndoOk_f, laws_toUndo, laws_toUndo_f, UndoOk_eq, hr]
  simp
end X
