/- Models of the functions, or plain laws about them; each theorem states its own conditions. -/
import Derived.Test.YtlcgddghildedaaNA
set_option linter.unusedVariables false
set_option linter.unusedSimpArgs false
open Go.Proofs
namespace X
open PM Go

/-! ## Values, cells, rows -/
theorem bif_and {α : Type} (a b : Bool) (x y : α) : (bif a then (bif b then x else y) else y) = bif (a && b) then x else y := by cases a <;> rfl
theorem bif_not {α : Type} (a : Bool) (x y : α) : (bif std.not a then x else y) = bif a then y else x := by cases a <;> rfl
theorem le_lt (x y : Int) : std.le x y = !(std.lt y x) := by
  rw [std_le, std_lt]
  by_cases h : x ≤ y
  · rw [decide_eq_true h, decide_eq_false (by omega)]; rfl
  · rw [decide_eq_false h, decide_eq_true (by omega)]; rfl
def inB (x a b : Int) : Bool := decide (a ≤ x ∧ x ≤ b)
def cellB (x : Int) : Bool := inB x 0 7
def valB (x : Int) : Bool := inB x 0 65535
theorem in_val (x a b : Int) (k : Bool → R) : spec_l1In std x a b k = k (inB x a b) := by
  simp only [spec_l1In, spec_l1In_f, std_le, inB]
  by_cases h : a ≤ x
  · by_cases g : x ≤ b <;> simp [h, g]
  · simp [h]
theorem in_val' (x a b : Int) (k : Bool → R) : impl_within std x a b k = k (inB x a b) := in_val x a b k
theorem cell_val (x : Int) (k : Bool → R) : spec_l3Cell std x k = k (cellB x) := in_val x 0 7 k
theorem val_val (x : Int) (k : Bool → R) : spec_l3Val std x k = k (valB x) := in_val x 0 65535 k
theorem cell_val' (x : Int) (k : Bool → R) : impl_isCell std x k = k (cellB x) := in_val x 0 7 k
theorem val_val' (x : Int) (k : Bool → R) : impl_isValue std x k = k (valB x) := in_val x 0 65535 k
def valsB (l : List Int) (n : Int) : Bool := allB (fun i => valB (std.iget l (i : Int))) l.length && std.eq (std.ilen l) n
theorem areValues_val (l : List Int) (hb : l.length ≤ 1048576) (n : Int) (k : Bool → R) : impl_areValues std l n k = k (valsB l n) := by
  unfold impl_areValues impl_areValues_f valsB
  generalize hN : std.fuel = N
  have hN : 4294967296 = N := hN
  have lp : impl_areValues_l0 std (impl_isValue std) N l n l (std.ilen l) 0 (fun t => k t) (fun l811 n912 => k (std.eq (std.ilen l811) n912)) = bif allB (fun i => valB (std.iget l (i : Int))) l.length then k (std.eq (std.ilen l) n) else k false := by
    refine loop_all0 (F := fun m i => impl_areValues_l0 std (impl_isValue std) m l n l (std.ilen l) i (fun t => k t) (fun l811 n912 => k (std.eq (std.ilen l811) n912))) (by omega) (fun m i hi => ?_) (fun m => ?_)
    · have h1 : std.lt (i : Int) (std.ilen l) = true := by rw [std_ilen]; exact lt_nat_t hi
      have h2 : std.inb (i : Int) (std.ilen l) = true := by rw [std_ilen]; exact inb_nat_t hi
      simp only [impl_areValues_l0, h1, h2, bt, val_val', bif_not, add1 (i := i) (by omega)]
    · have h1 : std.lt (l.length : Int) (std.ilen l) = false := by rw [std_ilen]; exact lt_nat_f (Nat.le_refl _)
      simp only [impl_areValues_l0, h1, bf]
  rw [lp]
  cases allB (fun i => valB (std.iget l (i : Int))) l.length <;> rfl
def rowOk (l : List (List Int)) (i : Nat) : Bool := cellB (std.vget l (i : Int) 0) && valB (std.vget l (i : Int) 1)
def rowsOk (l : List (List Int)) : Bool := !(std.lt 300 (std.vlen l)) && allB (rowOk l) l.length
theorem RowsOk_l1 (l : List (List Int)) (hb : l.length ≤ 1048576) (kret : Bool → R) (kx : Unit → R) (N : Nat) (hN : l.length < N) :
    spec_RowsOk_l0 std (spec_l3Val std) (spec_l3Cell std) N l 0 kret kx = bif allB (rowOk l) l.length then kx () else kret false := by
  refine loop_all0 (F := fun n i => spec_RowsOk_l0 std (spec_l3Val std) (spec_l3Cell std) n l i kret kx) hN (fun n i hi => ?_) (fun n => ?_)
  · simp only [spec_RowsOk_l0, std_vlen, lt_nat_t hi, inb_nat_t hi, bt, val_val, cell_val, bif_not, bif_and, add1 (i := i) (by omega), rowOk]
  · simp only [spec_RowsOk_l0, std_vlen, lt_nat_f (Nat.le_refl _), bf]
theorem RowsOk_l2 (l m : List (List Int)) (hb : l.length ≤ 1048576) (kret : Bool → R) (kx : List (List Int) → R) (N : Nat) (hN : l.length < N) :
    impl_RowsOk_l0 std (impl_isCell std) (impl_isValue std) N m l l.length 0 kret kx = bif allB (rowOk l) l.length then kx m else kret false := by
  refine loop_all0 (F := fun n i => impl_RowsOk_l0 std (impl_isCell std) (impl_isValue std) n m l l.length i kret kx) hN (fun n i hi => ?_) (fun n => ?_)
  · simp only [impl_RowsOk_l0, std_vlen, lt_nat_t hi, inb_nat_t hi, bt, val_val', cell_val', bif_not, bif_and, add1 (i := i) (by omega), rowOk]
  · simp only [impl_RowsOk_l0, lt_nat_f (Nat.le_refl _), bf]
theorem RowsOk_val (l : List (List Int)) (hb : l.length ≤ 1048576) (k : Bool → R) : spec_RowsOk std l k = k (rowsOk l) ∧ impl_RowsOk std l k = k (rowsOk l) := by
  unfold spec_RowsOk spec_RowsOk_f impl_RowsOk impl_RowsOk_f rowsOk
  generalize hN : std.fuel = N
  have hN : 4294967296 = N := hN
  rw [RowsOk_l1 l hb _ _ N (by omega), std_vlen, RowsOk_l2 l l hb _ _ N (by omega)]
  simp only [std_vlen, le_lt]
  cases std.lt 300 (l.length : Int) <;> cases allB (rowOk l) l.length <;> exact ⟨rfl, rfl⟩
end X
