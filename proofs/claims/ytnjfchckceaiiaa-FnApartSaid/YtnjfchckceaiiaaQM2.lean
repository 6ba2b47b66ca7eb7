/- Models of the functions, or plain laws about them; each theorem states its own conditions. -/
import Derived.Test.YtnjfchckceaiiaaPNB
import Derived.Test.YtnjfchckceaiiaaQM1
set_option linter.unusedVariables false
set_option linter.unusedSimpArgs false
open Go.Proofs
namespace X
open PM Go

/-! ## A shelf's operations as plain functions -/
noncomputable def boostDo (l : List Int) (c kd a b d : Int) (r : List Int) : List Int × Int × List Int × Int × Int × Int × Bool :=
  bif shelfOk l c then (bif regsOk r then (bif opOk kd a b d then
    (if kd = 12 then ((slotPut l a (r.getD b.toNat 0)).1, c, r.set d.toNat ((slotPut l a (r.getD b.toNat 0)).2.1.tmod 65536), (backV a (slotPut l a (r.getD b.toNat 0)).2.1).1, (backV a (slotPut l a (r.getD b.toNat 0)).2.1).2.1, (backV a (slotPut l a (r.getD b.toNat 0)).2.1).2.2, true)
     else if kd = 13 then (l, c, (bif (slotGet l b).2 then (r.set a.toNat 0).set a.toNat ((IntKind.i64.wrap ((slotGet l b).1 + 1)).tmod 65536) else r.set a.toNat 0), 0, 0, 0, true)
     else if kd = 14 then ((slotDrop l a).1, c, r.set b.toNat ((slotDrop l a).2.1.tmod 65536), (backV a (slotDrop l a).2.1).1, (backV a (slotDrop l a).2.1).2.1, (backV a (slotDrop l a).2.1).2.2, true)
     else if kd = 15 then (l, (IntKind.i64.wrap (c + r.getD a.toNat 0)).tmod 65536, r, 3, 0, r.getD a.toNat 0, true)
     else if kd = 16 then (l, c, r.set a.toNat c, 0, 0, 0, true)
     else (l, c, r, 0, 0, 0, false))
    else (l, c, r, 0, 0, 0, false)) else (l, c, r, 0, 0, 0, false)) else (l, c, r, 0, 0, 0, false)
theorem BoostDo_val (l : List Int) (c kd a b d : Int) (r : List Int) (h : l.length ≤ 2147483648) (hr : r.length ≤ 2147483648) :
    (∀ k, spec_BoostDo std l c kd a b d r k = k (boostDo l c kd a b d r).1 (boostDo l c kd a b d r).2.1 (boostDo l c kd a b d r).2.2.1 (boostDo l c kd a b d r).2.2.2.1 (boostDo l c kd a b d r).2.2.2.2.1 (boostDo l c kd a b d r).2.2.2.2.2.1 (boostDo l c kd a b d r).2.2.2.2.2.2) ∧
    (∀ k, impl_BoostDo std l c kd a b d r k = k (boostDo l c kd a b d r).1 (boostDo l c kd a b d r).2.1 (boostDo l c kd a b d r).2.2.1 (boostDo l c kd a b d r).2.2.2.1 (boostDo l c kd a b d r).2.2.2.2.1 (boostDo l c kd a b d r).2.2.2.2.2.1 (boostDo l c kd a b d r).2.2.2.2.2.2) := by
  have nz : std.nz 65536 = true := by simp
  unfold boostDo
  simp only [spec_BoostDo, spec_BoostDo_f, impl_BoostDo, impl_BoostDo_f, spec_l16Copy, spec_l16Copy_f, impl_copyShelf, impl_copyShelf_f, copyInts_eq, l15Ints_eq l h, l15Ints_eq r hr, ShelfOk_eq, ShelfOk_val, Regs_val r hr, areValues_eq r hr,
    Touches_eq, spec_Touches, spec_Touches_f, OpOk_val, SlotGet_val, SlotGet_eq, (SlotPut_val l h _ _ _).1, (SlotPut_val l h _ _ _).2, SlotDrop_val l h, SlotDrop_eq l h, backTo_eq, Back_val, nz, cond_true]
  cases hsh : shelfOk l c
  · exact ⟨fun k => rfl, fun k => rfl⟩
  cases hrg : regsOk r
  · exact ⟨fun k => rfl, fun k => rfl⟩
  cases hop : opOk kd a b d
  · exact ⟨fun k => by simp, fun k => by simp⟩
  have h4 := regsOk_len hrg
  have e4 : std.ilen r = 4 := by rw [std_ilen, h4]; rfl
  have e4' : ∀ i x, std.ilen (std.iset r i x) = 4 := fun i x => by rw [std_ilen, std_iset, List.length_set, h4]; rfl
  simp only [std_not, Bool.not_true, cond_false, cond_true, std_eq, e4, e4']
  by_cases k12 : kd = 12
  · subst k12
    rw [op12] at hop
    have g1 : regOk b = true := by revert hop; cases kOk a <;> cases regOk b <;> simp
    have g2 : regOk d = true := by revert hop; cases kOk a <;> cases regOk b <;> simp
    refine ⟨fun k => ?_, fun k => ?_⟩
    · simp [inb4 g1, inb4 g2, -std_inb]
    · simp [inb4 g1, inb4 g2, -std_inb]
  by_cases k13 : kd = 13
  · subst k13
    rw [op13] at hop
    have g1 : regOk a = true := by revert hop; cases regOk a <;> simp
    cases hg : (slotGet l b).2
    · refine ⟨fun k => ?_, fun k => ?_⟩
      · simp [inb4 g1, -std_inb]
      · simp [inb4 g1, -std_inb]
    · refine ⟨fun k => ?_, fun k => ?_⟩
      · simp [inb4 g1, -std_inb]
      · simp [inb4 g1, -std_inb]
  by_cases k14 : kd = 14
  · subst k14
    rw [op14] at hop
    have g1 : regOk b = true := by revert hop; cases kOk a <;> cases regOk b <;> simp
    refine ⟨fun k => ?_, fun k => ?_⟩
    · simp [inb4 g1, -std_inb]
    · simp [inb4 g1, -std_inb]
  by_cases k15 : kd = 15
  · subst k15
    rw [op15] at hop
    have g1 : regOk a = true := by revert hop; cases regOk a <;> simp
    refine ⟨fun k => ?_, fun k => ?_⟩
    · simp [inb4 g1, -std_inb]
    · simp [inb4 g1, -std_inb]
  by_cases k16 : kd = 16
  · subst k16
    rw [op16] at hop
    have g1 : regOk a = true := by revert hop; cases regOk a <;> simp
    refine ⟨fun k => ?_, fun k => ?_⟩
    · simp [inb4 g1, -std_inb]
    · simp [inb4 g1, -std_inb]
  have e : ∀ n : Int, kd ≠ n → (kd == n) = false := fun n h => beq_eq_false_iff_ne.2 h
  simp only [k12, k13, k14, k15, k16, if_false]
  refine ⟨fun k => ?_, fun k => ?_⟩
  · simp only [e 12 k12, e 13 k13, e 14 k14, e 15 k15, e 16 k16, cond_false]
    cases (kd == 5) <;> cases (kd == 6) <;> rfl
  · simp only [e 12 k12, e 13 k13, e 14 k14, e 15 k15, e 16 k16, cond_false]
    cases (kd == 5) <;> cases (kd == 6) <;> rfl
end X
