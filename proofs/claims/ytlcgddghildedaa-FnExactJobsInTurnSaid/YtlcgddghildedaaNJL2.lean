/- Models of the functions, or plain laws about them; each theorem states its own conditions. -/
import Derived.Test.YtlcgddghildedaaNTj
import Derived.Test.YtlcgddghildedaaNV
import Derived.Test.YtlcgddghildedaaNOv
set_option linter.unusedVariables false
set_option linter.unusedSimpArgs false
open Go.Proofs
namespace X
open PM Go

/-! ## JobsOk -/
def cellsB (l : List Int) : Bool := allB (fun i => cellB (std.iget l (i : Int))) l.length
theorem con_cells (l : List Int) (hb : l.length ≤ 1048576) (k : Bool → R) : slices_ContainsFunc___int_int_ std l k = k (!(cellsB l)) := by
  unfold slices_ContainsFunc___int_int_ slices_ContainsFunc___int_int__f slices_IndexFunc___int_int_ slices_IndexFunc___int_int__f
  generalize hN : std.fuel = N
  have hN : 4294967296 = N := hN
  rw [std_ilen]
  have lp := loop_any (p := fun i => std.not (cellB (std.iget l (i : Int)))) (k := k) (F := fun n i => slices_IndexFunc___int_int__l0 std (impl_JobsOk_1 std) n l l.length i (fun t => k (std.le 0 t)) (fun _ => k (std.le 0 (-1)))) (len := l.length) (N := N) (by omega)
    (fun n i hi => by simp only [slices_IndexFunc___int_int__l0, std_ilen, lt_nat_t hi, inb_nat_t hi, bt, impl_JobsOk_1, impl_JobsOk_1_f, cell_val', add1 (i := i) (by omega)])
    (fun n => by simp only [slices_IndexFunc___int_int__l0, std_ilen, lt_nat_f (Nat.le_refl _), bf])
  refine lp.trans (congrArg k ?_)
  have : (fun i : Nat => !(std.not (cellB (std.iget l (i : Int))))) = fun i : Nat => cellB (std.iget l (i : Int)) := by funext i; cases cellB (std.iget l (i : Int)) <;> rfl
  rw [this]; rfl
def jobOk (a : List (List C)) (i : Nat) : Bool := !(std.lt 8 (std.ilen (std.rsi a (i : Int) 0))) && (!(std.lt 8 (std.vlen (std.rsv 2 a (i : Int) 1))) && (rowsOk (std.rsv 2 a (i : Int) 1) && cellsB (std.rsi a (i : Int) 0)))
theorem JobsOk_l2 (c1 : spec_l3Vals_T) (c3 : spec_RowsOk_T) (a : List (List C)) (i : Nat) (hi : i < a.length) (hb : (std.rsi a (i : Int) 0).length ≤ 1048576) (kret : Bool → R) (kx : List (List C) → Int → R) (N : Nat) (hN : (std.rsi a (i : Int) 0).length < N) :
    spec_JobsOk_l2 std c1 (spec_l3Cell std) c3 N a (i : Int) 0 kret kx = bif cellsB (std.rsi a (i : Int) 0) then kx a (i : Int) else kret false := by
  unfold cellsB
  generalize hl : std.rsi a (i : Int) 0 = l at hb hN
  refine loop_all0 (F := fun n j => spec_JobsOk_l2 std c1 (spec_l3Cell std) c3 n a (i : Int) j kret kx) hN (fun n j hj => ?_) (fun n => ?_)
  · simp only [spec_JobsOk_l2, std_rlen, inb_nat_t hi, bt, hl, std_ilen, lt_nat_t hj, inb_nat_t hj, cell_val, bif_not, add1 (i := j) (by omega)]
  · simp only [spec_JobsOk_l2, std_rlen, inb_nat_t hi, bt, hl, std_ilen, lt_nat_f (Nat.le_refl _), bf]
def jobsOk (cells : List Int) (a : List (List C)) : Bool := valsB cells 8 && (!(std.lt 4 (std.rlen a)) && allB (jobOk a) a.length)
theorem JobsOk_sp (cells : List Int) (hc : cells.length ≤ 1048576) (a : List (List C)) (hb : bJobS a) (k : Bool → R) : spec_JobsOk std cells a k = k (jobsOk cells a) := by
  have hb1 := hb.1
  unfold spec_JobsOk spec_JobsOk_f jobsOk
  rw [l3Vals_val cells hc]
  generalize hF : std.fuel = N
  have hN : 4294967296 = N := hF
  have lp : spec_JobsOk_l0 std (spec_l3Vals std) (spec_l3Cell std) (spec_RowsOk std) N a 0 (fun t => k t) (fun _ => k true) = bif allB (jobOk a) a.length then k true else k false := by
    refine loop_all0 (F := fun m i => spec_JobsOk_l0 std (spec_l3Vals std) (spec_l3Cell std) (spec_RowsOk std) m a i (fun t => k t) (fun _ => k true)) (by omega) (fun m i hi => ?_) (fun m => ?_)
    · obtain ⟨b1, b2⟩ := hb.2 i hi
      have hl2 := fun kr (kx : List (List C) → Int → R) => JobsOk_l2 (spec_l3Vals std) (spec_RowsOk std) a i hi b1 kr kx N (by omega)
      simp only [spec_JobsOk_l0, std_rlen, lt_nat_t hi, inb_nat_t hi, bt, (RowsOk_val _ b2 _).1, hF, hl2, jobOk, add1 (i := i) (by omega)]
      cases std.lt 8 (std.ilen (std.rsi a (i : Int) 0)) <;> cases std.lt 8 (std.vlen (std.rsv 2 a (i : Int) 1)) <;> cases rowsOk (std.rsv 2 a (i : Int) 1) <;> cases cellsB (std.rsi a (i : Int) 0) <;> rfl
    · simp only [spec_JobsOk_l0, std_rlen, lt_nat_f (Nat.le_refl _), bf]
  rw [lp]
  cases valsB cells 8 <;> cases std.lt 4 (std.rlen a) <;> cases allB (jobOk a) a.length <;> rfl
theorem JobsOk_im (cells : List Int) (hc : cells.length ≤ 1048576) (a : List (List C)) (hb : bJobS a) (k : Bool → R) : impl_JobsOk std cells a k = k (jobsOk cells a) := by
  have hb1 := hb.1
  unfold impl_JobsOk impl_JobsOk_f jobsOk
  generalize hN : std.fuel = N
  have hN : 4294967296 = N := hN
  rw [std_rlen]
  have lp : ∀ kx : List Int → List (List C) → R, impl_JobsOk_l0 std (impl_RowsOk std) (slices_ContainsFunc___int_int_ std) (impl_areValues std) N cells a a (a.length : Int) 0 (fun t => k t) kx = bif allB (jobOk a) a.length then kx cells a else k false := fun kx => by
    refine loop_all0 (F := fun m i => impl_JobsOk_l0 std (impl_RowsOk std) (slices_ContainsFunc___int_int_ std) (impl_areValues std) m cells a a (a.length : Int) i (fun t => k t) kx) (by omega) (fun m i hi => ?_) (fun m => ?_)
    · obtain ⟨b1, b2⟩ := hb.2 i hi
      simp only [impl_JobsOk_l0, std_rlen, lt_nat_t hi, inb_nat_t hi, bt, (RowsOk_val _ b2 _).2, con_cells _ b1, jobOk, add1 (i := i) (by omega)]
      cases std.lt 8 (std.ilen (std.rsi a (i : Int) 0)) <;> cases std.lt 8 (std.vlen (std.rsv 2 a (i : Int) 1)) <;> cases rowsOk (std.rsv 2 a (i : Int) 1) <;> cases cellsB (std.rsi a (i : Int) 0) <;> rfl
    · simp only [impl_JobsOk_l0, lt_nat_f (Nat.le_refl _), bf]
  rw [lp, areValues_val cells hc, le_lt]
  simp only [std_rlen]
  cases valsB cells 8 <;> cases std.lt 4 (a.length : Int) <;> cases allB (jobOk a) a.length <;> rfl
end X
