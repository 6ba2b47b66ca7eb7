/- Models of the functions, or plain laws about them; each theorem states its own conditions. -/
import Derived.Test.YtlcgddghildedaaNJL2
import Derived.Test.YtlcgddghildedaaNOv
set_option linter.unusedVariables false
set_option linter.unusedSimpArgs false
open Go.Proofs
namespace X
open PM Go
/-! ## JobsInTurn -/
def jitG (a : List (List C)) (order : List Int) (i : Nat) (o : List Int) : List Int :=
  bif inB (std.iget order (i : Int)) 0 ((a.length : Int) - 1) then ovL o (std.rsv 2 a (std.iget order (i : Int)) 1) else o
def jit (cells : List Int) (a : List (List C)) (order : List Int) : List Int := bif jobsOk cells a then foldN (jitG a order) order.length 0 cells else []
theorem jitG_len (a : List (List C)) (order : List Int) (i : Nat) (o : List Int) (h : o.length ≤ 1048576) : (jitG a order i o).length ≤ 1048576 := by
  unfold jitG
  cases inB (std.iget order (i : Int)) 0 ((a.length : Int) - 1)
  · exact h
  · exact ovL_len _ _ h
theorem jit_len (cells : List Int) (a : List (List C)) (order : List Int) (h : cells.length ≤ 1048576) : (jit cells a order).length ≤ 1048576 := by
  unfold jit
  cases jobsOk cells a
  · simp
  · exact foldN_P (P := fun o : List Int => o.length ≤ 1048576) (len := order.length) (fun i o _ => jitG_len a order i o) _ 0 cells (by omega) h
theorem pred_len (n : Nat) (h : n ≤ 1048576) : std.sub .i64 (n : Int) 1 = (n : Int) - 1 := by rw [std_sub, i64_wrap (by omega) (by omega)]
theorem in_rows {x : Int} {n : Nat} (h : inB x 0 ((n : Int) - 1) = true) : std.inb x (n : Int) = true ∧ ∃ q : Nat, q < n ∧ x = (q : Int) := by
  unfold inB at h
  rw [decide_eq_true_eq] at h
  exact ⟨by rw [std_inb]; exact decide_eq_true (by omega), x.toNat, by omega, by omega⟩
theorem JobsInTurn_val (cells : List Int) (hc : cells.length ≤ 1048576) (a : List (List C)) (hb : bJobS a) (order : List Int) (ho : order.length ≤ 1048576) (k : List Int → R) :
    spec_JobsInTurn std cells a order k = k (jit cells a order) ∧ impl_JobsInTurn std cells a order k = k (jit cells a order) := by
  unfold spec_JobsInTurn spec_JobsInTurn_f impl_JobsInTurn impl_JobsInTurn_f jit
  rw [JobsOk_sp cells hc a hb, JobsOk_im cells hc a hb]
  have hb1 := hb.1
  cases jobsOk cells a
  · exact ⟨rfl, rfl⟩
  · have e : std.room (std.ilen []) (std.ilen cells) = true := by rw [std_room]; exact decide_eq_true (by simp; omega)
    simp only [not_true', bf, bt, e, copyInts_val cells hc]
    generalize hN : std.fuel = N
    have hN : 4294967296 = N := hN
    constructor
    · refine loop_fo (P := fun o : List Int => o.length ≤ 1048576) (F := fun n i o => spec_JobsInTurn_l0 std (spec_l1In std) (spec_JobsOk std) (spec_Overlay std) n a order i o (fun o => k o)) (by omega) (fun n i o hi hp => ?_) (fun i o _ h => jitG_len a order i o h) (fun n o _ => ?_) hc
      · simp only [spec_JobsInTurn_l0, std_ilen, std_rlen, lt_nat_t hi, inb_nat_t hi, bt, pred_len _ hb1, in_val, jitG, add1 (i := i) (by omega)]
        cases hin : inB (std.iget order (i : Int)) 0 ((a.length : Int) - 1)
        · rfl
        · obtain ⟨h1, q, h2, h3⟩ := in_rows hin
          have hl : (std.rsv 2 a (std.iget order (i : Int)) 1).length ≤ 1048576 := by rw [h3]; exact (hb.2 q h2).2
          simp only [bt, h1, (Overlay_val o hp _ hl _).1]
      · simp only [spec_JobsInTurn_l0, std_ilen, lt_nat_f (Nat.le_refl _), bf]
    · rw [std_ilen]
      refine loop_fo (P := fun o : List Int => o.length ≤ 1048576) (F := fun n i o => impl_JobsInTurn_l0 std (impl_within std) (impl_JobsOk std) (impl_copyInts std) (impl_Overlay std) n a order order.length i o (fun o => k o)) (by omega) (fun n i o hi hp => ?_) (fun i o _ h => jitG_len a order i o h) (fun n o _ => ?_) hc
      · simp only [impl_JobsInTurn_l0, std_ilen, std_rlen, lt_nat_t hi, inb_nat_t hi, bt, pred_len _ hb1, in_val', jitG, add1 (i := i) (by omega)]
        cases hin : inB (std.iget order (i : Int)) 0 ((a.length : Int) - 1)
        · rfl
        · obtain ⟨h1, q, h2, h3⟩ := in_rows hin
          have hl : (std.rsv 2 a (std.iget order (i : Int)) 1).length ≤ 1048576 := by rw [h3]; exact (hb.2 q h2).2
          simp only [bt, h1, (Overlay_val o hp _ hl _).2]
      · simp only [impl_JobsInTurn_l0, lt_nat_f (Nat.le_refl _), bf]
theorem IntS_c (rows : List (List C)) : laws_markIntS_c rows = rows.length := by
  unfold laws_markIntS_c
  generalize rows.length = n
  induction n with
  | zero => rfl
  | succ n ih => exact congrArg (· + 1) ih
theorem RowS_c (rows : List (List C)) : laws_markRowS_c rows = rows.length * 2 := by
  unfold laws_markRowS_c
  generalize rows.length = n
  induction n with
  | zero => rfl
  | succ n ih => rw [Nat.add_mul]; exact congrArg (· + 2) ih
theorem rsi_len (a : List (List C)) (i : Int) (j : Nat) : (asRows (cOf a i.toNat j)).length = (std.rsi a i j).length := by rw [std_rsi, List.length_map]
theorem rsv_len (n : Nat) (a : List (List C)) (i : Int) (j : Nat) : (asRows (cOf a i.toNat j)).length = (std.rsv n a i j).length := by rw [std_rsv, List.length_map]
theorem JobS_c (a : List (List C)) (h : bJobS a) : laws_markJobS_c a ≤ 3298534883328 := by
  unfold laws_markJobS_c
  refine Nat.le_trans (sumN_bd _ _ 3145728 fun i hi => ?_) (Nat.le_trans (Nat.mul_le_mul_right _ h.1) (by omega))
  obtain ⟨h1, h2⟩ := h.2 i hi
  unfold laws_markJobS_e
  have e1 := rsi_len a (i : Int) 0
  have e2 := rsv_len 2 a (i : Int) 1
  rw [Int.toNat_natCast] at e1 e2
  rw [IntS_c, RowS_c, e1, e2]
  omega
theorem markJobS_eq (a : List (List C)) (h : bJobS a) (k0 : Int) (h0 : 0 ≤ k0) (h1 : k0 ≤ 1048577) : ∃ m : Int, 0 ≤ m ∧ m ≤ 4398046511104 ∧ ∀ k : Int → R, laws_markJobS std a k0 k = k m := by
  have hc := JobS_c a h
  refine ⟨k0 + (laws_markJobS_c a : Nat), by omega, by omega, fun k => ?_⟩
  unfold laws_markJobS
  have hr : PM.rowsOf (.rows 205 a) = a := rfl
  rw [hr, if_pos]
  exact ⟨h0, by omega, by have := h.1; omega⟩
theorem JobsInTurn_true (cells : List Int) (a : List (List C)) (order : List Int) (f1 : FitArr cx (.ints 3 .i64 cells)) (f2 : FitArr cx (.rows 203 a)) (f3 : FitArr cx (.ints 3 .i64 order)) (k : Bool → R) : laws_FnExactJobsInTurn std cells a order k = k true := by
  obtain ⟨v, v1, v2, v3⟩ := szJobS_v a f2 1048576 (by omega) (by omega)
  unfold laws_FnExactJobsInTurn laws_FnExactJobsInTurn_f
  by_cases hl : 1048576 < cells.length
  · have e : std.lt 1048576 (std.ilen cells) = true := by rw [std_lt, std_ilen]; exact decide_eq_true (by omega)
    simp only [e, bt]
  have e : std.lt 1048576 (std.ilen cells) = false := by rw [std_lt, std_ilen]; exact decide_eq_false (by omega)
  simp only [e, bf]
  by_cases hlo : 1048576 < order.length
  · have e : std.lt 1048576 (std.ilen order) = true := by rw [std_lt, std_ilen]; exact decide_eq_true (by omega)
    simp only [e, bt]
  have e : std.lt 1048576 (std.ilen order) = false := by rw [std_lt, std_ilen]; exact decide_eq_false (by omega)
  simp only [e, bf, v3]
  by_cases hc : v < 0
  · simp only [lt0_t hc, bt]
  have b := v2 (by omega)
  have hl' : cells.length ≤ 1048576 := by omega
  have hlo' : order.length ≤ 1048576 := by omega
  have c2 := bJobS_n _ b
  have hj := jit_len cells (nJobS a) order hl'
  have sp := fun k => (JobsInTurn_val cells hl' _ c2 order hlo' k).1
  have im := fun k => (JobsInTurn_val cells hl' _ c2 order hlo' k).2
  simp only [lt0_f hc, bf, toIntS_v cells hl', toIntS_v order hlo', toJobS_v a b, sp, im]
  generalize jit cells (nJobS a) order = g at hj
  simp only [eqIntS_r g hj, eqIntS_r cells hl', eqIntS_r order hlo', eqJobS_r _ c2, not_true', bf, markIntS_eq cells 1 (by omega) (by omega) (by omega)]
  obtain ⟨m, m1, m2, m3⟩ := markJobS_eq (nJobS a) c2 (1 + (cells.length : Int)) (by omega) (by omega)
  simp only [m3, markIntS_eq order m (by omega) (by omega) (by omega), ge0_f (show (0 : Int) ≤ m + (order.length : Int) by omega), bf, eqIntS_r g hj, not_true', markIntS_eq g 1 (by omega) (by omega) (by omega),
    heldIntS_eq 1 g.length (by omega) (by omega) (by omega), ge0_f (show (0 : Int) ≤ 1 + (g.length : Int) by omega), eq_self]
end X
