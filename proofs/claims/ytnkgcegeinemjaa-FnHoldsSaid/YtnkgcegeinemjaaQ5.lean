/- Models of the functions, or plain laws about them; each theorem states its own conditions. -/
import Derived.Test.YtnkgcegeinemjaaQ4
import Derived.Test.YtnkgcegeinemjaaQI
set_option linter.unusedVariables false
set_option linter.unusedSimpArgs false
open Go.Proofs
namespace X
open PM Go

/-! ## Blocks -/
def blocksGo (l : List (List Int)) (who what mode : Int) : Nat → Nat → List Int → List Int
  | 0, _, o => o
  | m + 1, i, o => bif fld l i 1 == what then (bif !(fld l i 0 == who) then (bif mode == 2 then blocksGo l who what mode m (i + 1) (o ++ [fld l i 0]) else (bif fld l i 2 == 2 then blocksGo l who what mode m (i + 1) (o ++ [fld l i 0]) else blocksGo l who what mode m (i + 1) o))
      else blocksGo l who what mode m (i + 1) o) else blocksGo l who what mode m (i + 1) o
theorem blocksGo_length (l : List (List Int)) (who what mode : Int) : ∀ (m i : Nat) (o : List Int), (blocksGo l who what mode m i o).length ≤ o.length + m
  | 0, _, o => Nat.le_refl _
  | m + 1, i, o => by
    have h1 := blocksGo_length l who what mode m (i + 1) o
    have h2 := blocksGo_length l who what mode m (i + 1) (o ++ [fld l i 0])
    rw [List.length_append, List.length_singleton] at h2
    unfold blocksGo
    cases (fld l i 1 == what) <;> cases (fld l i 0 == who) <;> cases (mode == 2) <;> cases (fld l i 2 == 2) <;> simp only [Bool.not_true, Bool.not_false, cond_true, cond_false] <;> omega
theorem Blocks_go (c94 : spec_l1In_T) (c37 : spec_HoldsOk_T) (c97 : impl_within_T) (c39 : impl_HoldsOk_T) (l : List (List Int)) (hb : l.length ≤ 1048576) (who what mode : Int) (k : List Int → R) : ∀ (m N i : Nat) (o : List Int), i + m = l.length → m < N → o.length ≤ i →
    spec_Blocks_l0 std c94 c37 N l who what mode i o (fun o => k o) = k (blocksGo l who what mode m i o) ∧ impl_Blocks_l0 std c97 c39 N who what mode l l.length i o (fun o => k o) = k (blocksGo l who what mode m i o)
  | 0, N + 1, i, o, hi, hn, ho => by
    unfold spec_Blocks_l0 impl_Blocks_l0
    have e1 : std.lt (i : Int) (l.length : Int) = false := by rw [lt_nat]; exact decide_eq_false (by omega)
    simp only [std_vlen, e1, cond_false, blocksGo, and_self]
  | m + 1, N + 1, i, o, hi, hn, ho => by
    unfold spec_Blocks_l0 impl_Blocks_l0 blocksGo
    have e1 : std.lt (i : Int) (l.length : Int) = true := by rw [lt_nat]; exact decide_eq_true (by omega)
    have e2 : std.inb (i : Int) (l.length : Int) = true := by rw [inb_nat]; exact decide_eq_true (by omega)
    have ih := fun o ho => Blocks_go c94 c37 c97 c39 l hb who what mode k m N (i + 1) o (by omega) (by omega) ho
    have ia := ih o (by omega)
    have ib := ih (o ++ [fld l i 0]) (by rw [List.length_append, List.length_singleton]; omega)
    have ei : std.add .i64 (i : Int) 1 = ((i + 1 : Nat) : Int) := by rw [std_add]; exact cast1 i (by omega)
    have er : std.room (std.ilen o) (std.ilen [fld l i 0]) = true := by rw [std_room]; exact decide_eq_true (by simp; omega)
    simp only [std_vlen, e1, e2, cond_true, vget_nat, ei, er, std_eq, std_not, std_iapp, ia.1, ia.2, ib.1, ib.2]
    cases (fld l i 1 == what) <;> cases (fld l i 0 == who) <;> cases (mode == 2) <;> cases (fld l i 2 == 2) <;> exact ⟨rfl, rfl⟩
def blocks (l : List (List Int)) (who what mode : Int) : List Int := bif holdsOk l then (bif decide (1 ≤ mode ∧ mode ≤ 2) then blocksGo l who what mode l.length 0 [] else []) else []
theorem blocks_length (l : List (List Int)) (who what mode : Int) : (blocks l who what mode).length ≤ l.length := by
  unfold blocks
  have := blocksGo_length l who what mode l.length 0 []
  rw [List.length_nil, Nat.zero_add] at this
  cases holdsOk l <;> cases decide (1 ≤ mode ∧ mode ≤ 2) <;> simp only [cond_true, cond_false, List.length_nil] <;> omega
theorem Blocks_val (l : List (List Int)) (hb : l.length ≤ 1048576) (who what mode : Int) (k : List Int → R) : spec_Blocks std l who what mode k = k (blocks l who what mode) ∧ impl_Blocks std l who what mode k = k (blocks l who what mode) := by
  have p := fun N hN => Blocks_go (spec_l1In std) (spec_HoldsOk std) (impl_within std) (impl_HoldsOk std) l hb who what mode k l.length N 0 [] (by omega) hN (Nat.le_refl _)
  unfold spec_Blocks spec_Blocks_f impl_Blocks impl_Blocks_f blocks
  rw [HoldsOk_val l (by omega), HoldsOk_eq l (by omega)]
  generalize hN : std.fuel = N
  have hN : 4294967296 = N := hN
  have p := p N (by omega)
  rw [show impl_within std mode = spec_l1In std mode from rfl, l1In_val, l1In_val]
  cases holdsOk l
  · exact ⟨rfl, rfl⟩
  · cases decide (1 ≤ mode ∧ mode ≤ 2)
    · exact ⟨rfl, rfl⟩
    · refine ⟨?_, ?_⟩
      · simp only [not_true', cond_false, cond_true]
        refine Eq.trans ?_ (p.1.trans ?_)
        · rfl
        · rfl
      · simp only [not_true', cond_false, cond_true]
        refine Eq.trans ?_ (p.2.trans ?_)
        · rfl
        · rfl
theorem posn (n m : Nat) : std.lt (1 + 3 * (m : Int)) 0 = false := by rw [std_lt]; exact decide_eq_false (by omega)
theorem markHold1 (a : List (List Int)) (hb : a.length ≤ 2147483648) (hw : ∀ r ∈ a, r.length = 3) (kx : Int → List (List Int) → R) : laws_markHoldS std a 1 kx = kx (1 + 3 * a.length) (vups 3 1 a.length) := markHoldS_k a 1 hb hw (by omega) (by omega) kx
theorem pos3 (m : Nat) : std.lt (1 + 3 * (m : Int)) 0 = false := by rw [std_lt]; exact decide_eq_false (by omega)
theorem Blocks_true (l : List (List Int)) (who what mode : Int) (b : FitArr cx (.vecs 73 3 l)) (b1 : IntKind.i64.min ≤ who ∧ who ≤ IntKind.i64.max) (b2 : IntKind.i64.min ≤ what ∧ what ≤ IntKind.i64.max) (b3 : IntKind.i64.min ≤ mode ∧ mode ≤ IntKind.i64.max) (k : Bool → R) : laws_FnExactBlocks std l who what mode k = k true := by
  unfold laws_FnExactBlocks laws_FnExactBlocks_f
  rw [szHoldS_eq l 1048576 (by omega) (by omega) b.1]
  by_cases hl : (1048576 : Int) - l.length < 0
  · simp [hl]
  · have h : l.length ≤ 2147483648 := by omega
    have h20 : l.length ≤ 1048576 := by omega
    have hw : ∀ r ∈ l, r.length = 3 := fun r hr => (b.2 r hr).1
    have hr : (blocks l who what mode).length ≤ 2147483648 := Nat.le_trans (blocks_length _ _ _ _) h
    have e0 : std.lt (1048576 - (l.length : Int)) 0 = false := by rw [std_lt]; exact decide_eq_false hl
    simp only [hl, if_false, e0, cond_false, toHoldS_eq l h hw, (Blocks_val l h20 _ _ _ _).1, (Blocks_val l h20 _ _ _ _).2, eqHoldS1 l h, eqInt1 _ hr, markHold1 l h hw, pos3, mark1 _ hr, held1 _ hr, pos1, eq_self, not_true']
end X
