/- Models of the functions, or plain laws about them; each theorem states its own conditions. -/
import Derived.Test.YtlcgddghildedaaNMF
import Derived.Test.YtlcgddghildedaaNV
set_option linter.unusedVariables false
set_option linter.unusedSimpArgs false
open Go.Proofs
namespace X
open PM Go
/-! ## Overlay -/
theorem l3Vals_val (l : List Int) (hb : l.length ≤ 1048576) (k : Bool → R) : spec_l3Vals std l k = k (valsB l 8) := by
  unfold spec_l3Vals spec_l3Vals_f valsB
  generalize hN : std.fuel = N
  have hN : 4294967296 = N := hN
  have lp : spec_l3Vals_l0 std (spec_l3Val std) N l 0 (fun t => k t) (fun _ => k true) = bif allB (fun i => valB (std.iget l (i : Int))) l.length then k true else k false := by
    refine loop_all0 (F := fun m i => spec_l3Vals_l0 std (spec_l3Val std) m l i (fun t => k t) (fun _ => k true)) (by omega) (fun m i hi => ?_) (fun m => ?_)
    · simp only [spec_l3Vals_l0, std_ilen, lt_nat_t hi, inb_nat_t hi, bt, val_val, bif_not, add1 (i := i) (by omega)]
    · simp only [spec_l3Vals_l0, std_ilen, lt_nat_f (Nat.le_refl _), bf]
  rw [lp]
  cases std.eq (std.ilen l) 8 <;> cases allB (fun i => valB (std.iget l (i : Int))) l.length <;> rfl
theorem copyInts_val (l : List Int) (hb : l.length ≤ 1048576) (k : List Int → R) : impl_copyInts std l k = k l := by
  unfold impl_copyInts impl_copyInts_f
  have e : std.room (std.ilen []) (std.ilen l) = true := by rw [std_room]; exact decide_eq_true (by simp; omega)
  rw [e, bt]
  rfl
def ovG (l : List (List Int)) (i : Nat) (o : List Int) : List Int := std.iset o (std.vget l (i : Int) 0) (std.vget l (i : Int) 1)
def ovL (v : List Int) (l : List (List Int)) : List Int := bif valsB v 8 && rowsOk l then foldN (ovG l) l.length 0 v else []
theorem ovG_len (l : List (List Int)) (i : Nat) (o : List Int) : (ovG l i o).length = o.length := by simp [ovG]
theorem ovF_len (l : List (List Int)) (v : List Int) : (foldN (ovG l) l.length 0 v).length = v.length :=
  foldN_P (P := fun o => o.length = v.length) (len := l.length) (fun i o _ h => (ovG_len l i o).trans h) _ 0 v (by omega) rfl
theorem ovL_len (v : List Int) (l : List (List Int)) (h : v.length ≤ 1048576) : (ovL v l).length ≤ 1048576 := by
  unfold ovL
  cases valsB v 8 && rowsOk l
  · simp
  · rw [bt, ovF_len]; exact h
theorem valsB_len {v : List Int} {n : Nat} (h : valsB v (n : Int) = true) : v.length = n := by
  unfold valsB at h
  rw [Bool.and_eq_true] at h
  have := h.2
  rw [std_eq, std_ilen, beq_iff_eq] at this
  omega
theorem row_cell {l : List (List Int)} (h : rowsOk l = true) {i : Nat} (hi : i < l.length) {o : List Int} (ho : o.length = 8) : std.inb (std.vget l (i : Int) 0) (std.ilen o) = true := by
  unfold rowsOk at h
  rw [Bool.and_eq_true] at h
  have := allB_at h.2 hi
  unfold rowOk cellB inB at this
  rw [Bool.and_eq_true, decide_eq_true_eq] at this
  rw [std_inb, std_ilen, ho]
  exact decide_eq_true (by omega)
theorem Overlay_val (v : List Int) (hv : v.length ≤ 1048576) (l : List (List Int)) (hb : l.length ≤ 1048576) (k : List Int → R) : spec_Overlay std v l k = k (ovL v l) ∧ impl_Overlay std v l k = k (ovL v l) := by
  unfold spec_Overlay spec_Overlay_f impl_Overlay impl_Overlay_f ovL
  rw [l3Vals_val v hv, areValues_val v hv]
  cases hvb : valsB v 8
  · exact ⟨rfl, rfl⟩
  · simp only [not_true', bf, (RowsOk_val l hb _).1, (RowsOk_val l hb _).2, Bool.true_and]
    cases hrb : rowsOk l
    · exact ⟨rfl, rfl⟩
    · have h8 : v.length = 8 := valsB_len (n := 8) hvb
      have e : std.room (std.ilen []) (std.ilen v) = true := by rw [std_room]; exact decide_eq_true (by simp; omega)
      simp only [not_true', bf, bt, e, copyInts_val v hv]
      generalize hN : std.fuel = N
      have hN : 4294967296 = N := hN
      constructor
      · refine loop_fo (P := fun o => o.length = 8) (F := fun n i o => spec_Overlay_l0 std (spec_l3Vals std) (spec_RowsOk std) n l i o (fun o => k o)) (by omega) (fun n i o hi ho => ?_) (fun i o _ h => (ovG_len l i o).trans h) (fun n o _ => ?_) h8
        · simp only [spec_Overlay_l0, std_vlen, lt_nat_t hi, inb_nat_t hi, bt, row_cell hrb hi ho, add1 (i := i) (by omega)]
          rfl
        · simp only [spec_Overlay_l0, std_vlen, lt_nat_f (Nat.le_refl _), bf]
      · rw [std_vlen]
        refine loop_fo (P := fun o => o.length = 8) (F := fun n i o => impl_Overlay_l0 std (impl_RowsOk std) (impl_areValues std) (impl_copyInts std) n l l.length i o (fun o => k o)) (by omega) (fun n i o hi ho => ?_) (fun i o _ h => (ovG_len l i o).trans h) (fun n o _ => ?_) h8
        · simp only [impl_Overlay_l0, std_vlen, lt_nat_t hi, inb_nat_t hi, bt, row_cell hrb hi ho, add1 (i := i) (by omega)]
          rfl
        · simp only [impl_Overlay_l0, lt_nat_f (Nat.le_refl _), bf]
end X
