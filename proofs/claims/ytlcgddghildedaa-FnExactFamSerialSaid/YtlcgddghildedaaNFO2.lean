/- Models of the functions, or plain laws about them; each theorem states its own conditions. -/
import Derived.Test.YtlcgddghildedaaNTo
import Derived.Test.YtlcgddghildedaaNK
import Derived.Test.YtlcgddghildedaaNOv
set_option linter.unusedVariables false
set_option linter.unusedSimpArgs false
open Go.Proofs
namespace X
open PM Go

/-! ## FamOk -/
theorem l4Regs_val (l : List Int) (hb : l.length ≤ 1048576) (k : Bool → R) : spec_l4Regs std l k = k (valsB l 4) := by
  unfold spec_l4Regs spec_l4Regs_f valsB
  generalize hN : std.fuel = N
  have hN : 4294967296 = N := hN
  have lp : spec_l4Regs_l0 std (spec_l3Val std) N l 0 (fun t => k t) (fun _ => k true) = bif allB (fun i => valB (std.iget l (i : Int))) l.length then k true else k false := by
    refine loop_all0 (F := fun m i => spec_l4Regs_l0 std (spec_l3Val std) m l i (fun t => k t) (fun _ => k true)) (by omega) (fun m i hi => ?_) (fun m => ?_)
    · simp only [spec_l4Regs_l0, std_ilen, lt_nat_t hi, inb_nat_t hi, bt, val_val, bif_not, add1 (i := i) (by omega)]
    · simp only [spec_l4Regs_l0, std_ilen, lt_nat_f (Nat.le_refl _), bf]
  rw [lp]
  cases std.eq (std.ilen l) 4 <;> cases allB (fun i => valB (std.iget l (i : Int))) l.length <;> rfl
noncomputable def kidsB (a : List (List C)) : Bool := allB (fun i => kidB (std.rsv 4 a (i : Int) 0)) a.length
noncomputable def famB (c r : List Int) (w : List (List Int)) (a : List (List C)) (t : List Int) : Bool := valsB c 8 && (valsB r 4 && (rowsOk w && (inB (std.rlen a) 1 3 && (!(std.lt 300 (std.ilen t)) && kidsB a))))
theorem FamOk_sp (c r : List Int) (w : List (List Int)) (a : List (List C)) (t : List Int) (h1 : c.length ≤ 1048576) (h2 : r.length ≤ 1048576) (h3 : w.length ≤ 1048576) (h4 : bKidS a) (k : Bool → R) : spec_FamOk std c r w a t k = k (famB c r w a t) := by
  have hb := h4.1
  unfold spec_FamOk spec_FamOk_f famB kidsB
  generalize hF : std.fuel = N
  have hN : 4294967296 = N := hF
  have lp : spec_FamOk_l0 std (spec_l1In std) (spec_l3Vals std) (spec_RowsOk std) (spec_l4Regs std) (spec_KidOk std) N 0 c r w a t (fun t => k t) (fun _ => k true) = bif allB (fun i => kidB (std.rsv 4 a (i : Int) 0)) a.length then k true else k false := by
    refine loop_all0 (F := fun m i => spec_FamOk_l0 std (spec_l1In std) (spec_l3Vals std) (spec_RowsOk std) (spec_l4Regs std) (spec_KidOk std) m i c r w a t (fun t => k t) (fun _ => k true)) (by omega) (fun m i hi => ?_) (fun m => ?_)
    · have b1 : (std.rsv 4 a (i : Int) 0).length ≤ 1048576 := h4.2 i hi
      simp only [spec_FamOk_l0, std_rlen, lt_nat_t hi, inb_nat_t hi, bt, KidOk_sp _ b1, bif_not, add1 (i := i) (by omega)]
    · simp only [spec_FamOk_l0, std_rlen, lt_nat_f (Nat.le_refl _), bf]
  simp only [l3Vals_val c h1, l4Regs_val r h2, (RowsOk_val w h3 _).1, in_val, lp]
  cases valsB c 8 <;> cases valsB r 4 <;> cases rowsOk w <;> cases inB (std.rlen a) 1 3 <;> cases std.lt 300 (std.ilen t) <;> cases allB (fun i => kidB (std.rsv 4 a (i : Int) 0)) a.length <;> rfl
theorem FamOk_im (c r : List Int) (w : List (List Int)) (a : List (List C)) (t : List Int) (h1 : c.length ≤ 1048576) (h2 : r.length ≤ 1048576) (h3 : w.length ≤ 1048576) (h4 : bKidS a) (k : Bool → R) : impl_FamOk std c r w a t k = k (famB c r w a t) := by
  have hb := h4.1
  unfold impl_FamOk impl_FamOk_f famB kidsB
  generalize hF : std.fuel = N
  have hN : 4294967296 = N := hF
  rw [std_rlen]
  have lp : ∀ kx : List Int → List Int → List (List Int) → List (List C) → List Int → R, impl_FamOk_l0 std (impl_within std) (impl_RowsOk std) (impl_areValues std) (impl_KidOk std) N a (a.length : Int) 0 c r w a t (fun t => k t) kx = bif allB (fun i => kidB (std.rsv 4 a (i : Int) 0)) a.length then kx c r w a t else k false := fun kx => by
    refine loop_all0 (F := fun m i => impl_FamOk_l0 std (impl_within std) (impl_RowsOk std) (impl_areValues std) (impl_KidOk std) m a (a.length : Int) i c r w a t (fun t => k t) kx) (by omega) (fun m i hi => ?_) (fun m => ?_)
    · have b1 : (std.rsv 4 a (i : Int) 0).length ≤ 1048576 := h4.2 i hi
      simp only [impl_FamOk_l0, std_rlen, lt_nat_t hi, inb_nat_t hi, bt, KidOk_im _ b1, bif_not, add1 (i := i) (by omega)]
    · simp only [impl_FamOk_l0, lt_nat_f (Nat.le_refl _), bf]
  simp only [lp, areValues_val c h1, areValues_val r h2, (RowsOk_val w h3 _).2, in_val', le_lt, std_rlen]
  cases valsB c 8 <;> cases valsB r 4 <;> cases rowsOk w <;> cases inB (a.length : Int) 1 3 <;> cases std.lt 300 (std.ilen t) <;> cases allB (fun i => kidB (std.rsv 4 a (i : Int) 0)) a.length <;> rfl
end X
