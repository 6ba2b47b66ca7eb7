/- Models of the functions, or plain laws about them; each theorem states its own conditions. -/
import Derived.Test.YtenbofmnmliopaaPl11
set_option linter.unusedVariables false
set_option linter.unusedSimpArgs false
open Go.Proofs
namespace X
open PM Go

theorem BoostDo_ex (l : List Int) (c kd a b d : Int) (r : List Int) (h : l.length ≤ 2147483648) (hr : r.length ≤ 2147483648) :
    ∃ t : List Int × Int × List Int × Int × Int × Int × Bool, t.1.length = l.length ∧ t.2.2.1.length = r.length ∧
      (∀ k, spec_BoostDo std l c kd a b d r k = k t.1 t.2.1 t.2.2.1 t.2.2.2.1 t.2.2.2.2.1 t.2.2.2.2.2.1 t.2.2.2.2.2.2) ∧
      (∀ k, impl_BoostDo std l c kd a b d r k = k t.1 t.2.1 t.2.2.1 t.2.2.2.1 t.2.2.2.2.1 t.2.2.2.2.2.1 t.2.2.2.2.2.2) := by
  have nz : std.nz 65536 = true := by simp
  simp only [spec_BoostDo, spec_BoostDo_f, impl_BoostDo, impl_BoostDo_f, spec_l16Copy, spec_l16Copy_f, impl_copyShelf, impl_copyShelf_f, copyInts_eq, l15Ints_eq l h, l15Ints_eq r hr, ShelfOk_eq, ShelfOk_val, Regs_val r hr, areValues_eq r hr,
    Touches_eq, spec_Touches, spec_Touches_f, OpOk_val, SlotGet_val, SlotGet_eq, (SlotPut_val l h _ _ _).1, (SlotPut_val l h _ _ _).2, SlotDrop_val l h, SlotDrop_eq l h, backTo_eq, Back_val, nz, cond_true]
  cases hsh : shelfOk l c
  · exact ⟨(l, c, r, 0, 0, 0, false), rfl, rfl, fun k => rfl, fun k => rfl⟩
  cases hrg : regsOk r
  · exact ⟨(l, c, r, 0, 0, 0, false), rfl, rfl, fun k => rfl, fun k => rfl⟩
  cases hop : opOk kd a b d
  · exact ⟨(l, c, r, 0, 0, 0, false), rfl, rfl, fun k => by simp, fun k => by simp⟩
  have h4 := regsOk_len hrg
  have e4 : std.ilen r = 4 := by rw [std_ilen, h4]; rfl
  have e4' : ∀ i x, std.ilen (std.iset r i x) = 4 := fun i x => by rw [std_ilen, std_iset, List.length_set, h4]; rfl
  simp only [std_not, Bool.not_true, cond_false, std_eq, e4, e4']
  by_cases k12 : kd = 12
  · subst k12
    rw [op12] at hop
    have g1 : regOk b = true := by revert hop; cases kOk a <;> cases regOk b <;> simp
    have g2 : regOk d = true := by revert hop; cases kOk a <;> cases regOk b <;> simp
    refine ⟨((slotPut l a (r.getD b.toNat 0)).1, c, r.set d.toNat ((slotPut l a (r.getD b.toNat 0)).2.1.tmod 65536), (backV a (slotPut l a (r.getD b.toNat 0)).2.1).1, (backV a (slotPut l a (r.getD b.toNat 0)).2.1).2.1, (backV a (slotPut l a (r.getD b.toNat 0)).2.1).2.2, true), slotPut_length _ _ _, by simp, fun k => ?_, fun k => ?_⟩
    · simp [inb4 g1, inb4 g2, -std_inb]
    · simp [inb4 g1, inb4 g2, -std_inb]
  by_cases k13 : kd = 13
  · subst k13
    rw [op13] at hop
    have g1 : regOk a = true := by revert hop; cases regOk a <;> simp
    cases hg : (slotGet l b).2
    · refine ⟨(l, c, r.set a.toNat 0, 0, 0, 0, true), rfl, by simp, fun k => ?_, fun k => ?_⟩
      · simp [inb4 g1, -std_inb]
      · simp [inb4 g1, -std_inb]
    · refine ⟨(l, c, (r.set a.toNat 0).set a.toNat ((IntKind.i64.wrap ((slotGet l b).1 + 1)).tmod 65536), 0, 0, 0, true), rfl, by simp, fun k => ?_, fun k => ?_⟩
      · simp [inb4 g1, -std_inb]
      · simp [inb4 g1, -std_inb]
  by_cases k14 : kd = 14
  · subst k14
    rw [op14] at hop
    have g1 : regOk b = true := by revert hop; cases kOk a <;> cases regOk b <;> simp
    refine ⟨((slotDrop l a).1, c, r.set b.toNat ((slotDrop l a).2.1.tmod 65536), (backV a (slotDrop l a).2.1).1, (backV a (slotDrop l a).2.1).2.1, (backV a (slotDrop l a).2.1).2.2, true), slotDrop_length _ _, by simp, fun k => ?_, fun k => ?_⟩
    · simp [inb4 g1, -std_inb]
    · simp [inb4 g1, -std_inb]
  by_cases k15 : kd = 15
  · subst k15
    rw [op15] at hop
    have g1 : regOk a = true := by revert hop; cases regOk a <;> simp
    refine ⟨(l, (IntKind.i64.wrap (c + r.getD a.toNat 0)).tmod 65536, r, 3, 0, r.getD a.toNat 0, true), rfl, rfl, fun k => ?_, fun k => ?_⟩
    · simp [inb4 g1, -std_inb]
    · simp [inb4 g1, -std_inb]
  by_cases k16 : kd = 16
  · subst k16
    rw [op16] at hop
    have g1 : regOk a = true := by revert hop; cases regOk a <;> simp
    refine ⟨(l, c, r.set a.toNat c, 0, 0, 0, true), rfl, by simp, fun k => ?_, fun k => ?_⟩
    · simp [inb4 g1, -std_inb]
    · simp [inb4 g1, -std_inb]
  have e : ∀ n : Int, kd ≠ n → (kd == n) = false := fun n h => beq_eq_false_iff_ne.2 h
  refine ⟨(l, c, r, 0, 0, 0, false), rfl, rfl, fun k => ?_, fun k => ?_⟩
  · simp only [e 12 k12, e 13 k13, e 14 k14, e 15 k15, e 16 k16, cond_false]
    cases (kd == 5) <;> cases (kd == 6) <;> rfl
  · simp only [e 12 k12, e 13 k13, e 14 k14, e 15 k15, e 16 k16, cond_false]
    cases (kd == 5) <;> cases (kd == 6) <;> rfl

theorem markInt_k (a : List Int) (m : Nat) (h : a.length ≤ 2147483648) (hm : m ≤ 2147483648) (k : Int → List Int → R) : laws_markIntS std a (1 + (m : Int)) k = k (1 + (m : Int) + a.length) (ups (1 + (m : Int)) a.length) :=
  markIntS_eq a (1 + (m : Int)) (by omega) (by omega) (by omega) k
theorem heldInt_k (n m : Nat) (h : n ≤ 2147483648) (hm : m ≤ 2147483648) (k : Int → R) : laws_heldIntS std (ups (1 + (m : Int)) n) (1 + (m : Int)) k = k (1 + (m : Int) + n) :=
  heldIntS_eq (1 + (m : Int)) n (by omega) (by omega) (by omega) k
theorem pos2 (m n : Nat) : std.lt (1 + (m : Int) + (n : Int)) 0 = false := by rw [std_lt]; exact decide_eq_false (by omega)
theorem BoostDo_true (l : List Int) (c kd a b d : Int) (r : List Int) (bl : FitArr cx (.ints 3 .i64 l)) (b1 : IntKind.i64.min ≤ c ∧ c ≤ IntKind.i64.max) (b2 : IntKind.i64.min ≤ kd ∧ kd ≤ IntKind.i64.max) (b3 : IntKind.i64.min ≤ a ∧ a ≤ IntKind.i64.max) (b4 : IntKind.i64.min ≤ b ∧ b ≤ IntKind.i64.max) (b5 : IntKind.i64.min ≤ d ∧ d ≤ IntKind.i64.max) (br : FitArr cx (.ints 3 .i64 r)) (k : Bool → R) : laws_FnExactBoostDo std l c kd a b d r k = k true := by
  unfold laws_FnExactBoostDo laws_FnExactBoostDo_f
  by_cases hr : 1048576 < r.length
  · have : std.lt 1048576 (std.ilen r) = true := by simp; omega
    simp only [this, cond_true]
  have e0 : std.lt 1048576 (std.ilen r) = false := by simp; omega
  simp only [e0, cond_false]
  rw [szShelf_val l c bl.1]
  by_cases hl : (1048576 : Int) - l.length < 0
  · simp [hl]
  have h : l.length ≤ 2147483648 := by omega
  have hr : r.length ≤ 2147483648 := by omega
  have e1 : std.lt (1048576 - (l.length : Int)) 0 = false := by rw [std_lt]; exact decide_eq_false hl
  obtain ⟨⟨l', c', r', x, y, z, q⟩, t1, t2, t3, t4⟩ := BoostDo_ex l c kd a b d r h hr
  have hl' : l'.length ≤ 2147483648 := by simp only at t1; omega
  have hr' : r'.length ≤ 2147483648 := by simp only at t2; omega
  simp only [hl, if_false, e1, cond_false, toShelf_eq l c h, toIntS_eq r hr, laws_toOp, laws_toOp_f, t3, t4, eqShelf1 _ _ hl', eqShelf1 l c h, eqInt1 r hr, eqInt1 r' hr', eqUndo1, markShelf1 _ _ hl', markShelf1 l c h, heldShelf1 _ _ hl', markInt_k _ _ hr h, markInt_k _ _ hr' hl', heldInt_k _ _ hr' hl', pos1, pos2, eq_self, beq_self, not_true']
end X
