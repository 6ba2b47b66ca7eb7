/- Models of the functions, or plain laws about them; each theorem states its own conditions. -/
import Derived.Test.YtnjfchckceaiiaaQM1
set_option linter.unusedVariables false
set_option linter.unusedSimpArgs false
namespace X
open PM Go

/-! ## All of FnSlots, plain -/
theorem slots_all {l : List Int} {k v : Int} (h : SlOk l) (hk : 0 ≤ k ∧ k ≤ 7) (hv : 0 ≤ v ∧ v ≤ 65535) : ∃ x y : List Int, slotPut l k v = (x, mv l k, true) ∧ slotGet x k = (v, true) ∧ slotDrop x k = (y, 1 + v, true) ∧ SlOk x ∧ SlOk y ∧
    (mapOf l).length = 8 ∧ (mapOf x).length = 8 ∧ (mapOf y).length = 8 ∧ (mapOf l).getD k.toNat 0 = mv l k ∧ (mapOf x).getD k.toNat 0 = v + 1 ∧ (mapOf y).getD k.toNat 0 = 0 ∧
    (∀ i : Nat, i < 8 → (i : Int) ≠ k → (mapOf x).getD i 0 = (mapOf l).getD i 0 ∧ (mapOf y).getD i 0 = (mapOf l).getD i 0) ∧ mapOf (slotsFrom (mapOf x)) = mapOf x := by
  obtain ⟨x, p1, p2, p3⟩ := put_spec h hk hv
  obtain ⟨y, d1, d2, d3⟩ := drop_spec p2 hk
  obtain ⟨a1, a2⟩ := mapOf_spec h
  obtain ⟨b1, b2⟩ := mapOf_spec p2
  obtain ⟨c1, c2⟩ := mapOf_spec d2
  have ek : ((k.toNat : Nat) : Int) = k := Int.toNat_of_nonneg hk.1
  have hkn : k.toNat < 8 := by omega
  have hx : mv x k = v + 1 := by rw [p3, if_pos rfl]
  refine ⟨x, y, p1, ?_, ?_, p2, d2, a1, b1, c1, ?_, ?_, ?_, ?_, ?_⟩
  · rw [get_spec p2 hk, hx, show (v + 1 == 0) = false from beq_eq_false_iff_ne.2 (by omega), cond_false, Int.add_sub_cancel]
  · rw [d1, hx, Int.add_comm]
  · rw [a2 _ hkn, ek]
  · rw [b2 _ hkn, ek, hx]
  · rw [c2 _ hkn, ek, d3, if_pos rfl]
  · intro i hi hne
    rw [b2 i hi, c2 i hi, a2 i hi, d3, if_neg hne, p3, if_neg hne]
    exact ⟨rfl, rfl⟩
  · obtain ⟨f1, f2⟩ := from_spec b1 (fun j hj => by rw [b2 j hj]; exact mv_range p2 _)
    refine mapOf_congr f1 p2 fun q h0 h7 => ?_
    have hq : q.toNat < 8 := by omega
    have := f2 q.toNat hq
    rw [b2 _ hq, Int.toNat_of_nonneg h0] at this
    exact this
theorem put_false {l : List Int} {k v : Int} (h : (slotPut l k v).2.2 = false) : slotPut l k v = (l, 0, false) := by
  unfold slotPut at h ⊢
  cases h1 : slotsOk l
  · rfl
  · cases h2 : keyOk k
    · rfl
    · cases h3 : valOk v
      · rfl
      · rw [h1, h2, h3] at h
        cases h4 : decide (atOf l k < 0) <;> rw [h4] at h <;> cases h
theorem put_ok (l : List Int) (k v : Int) : (slotPut l k v).2.2 = (slotsOk l && (keyOk k && valOk v)) := by
  unfold slotPut
  cases h1 : slotsOk l <;> cases h2 : keyOk k <;> cases h3 : valOk v <;> try rfl
  cases h4 : decide (atOf l k < 0) <;> rfl
end X
