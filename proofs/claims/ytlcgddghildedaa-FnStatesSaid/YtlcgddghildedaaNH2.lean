/- Models of the functions, or plain laws about them; each theorem states its own conditions. -/
import Derived.Test.YtlcgddghildedaaNTh
import Derived.Test.YtlcgddghildedaaNV
set_option linter.unusedVariables false
set_option linter.unusedSimpArgs false
open Go.Proofs
namespace X
open PM Go

/-! ## HistOk -/
theorem own_val (x : Int) (k : Bool → R) : impl_isOwner std x k = k (inB x 1 99) := in_val x 1 99 k
theorem con_val (a : List (List C)) (hb : a.length ≤ 1048576) (i : Nat) (hi : i ≤ a.length) (st : Int) (k : Bool → R) :
    slices_ContainsFunc___impl_Wrote_impl_Wrote_ std (std.rsub a 0 (i : Int)) st k = k (!(allB (fun j => !(std.eq (std.rint a (j : Int) 0) st)) i)) := by
  have e : std.rsub a 0 (i : Int) = a.take i := by
    show (a.drop (0 : Int).toNat).take ((i : Int).toNat - (0 : Int).toNat) = _
    simp
  have hl : (a.take i).length = i := by simp; omega
  unfold slices_ContainsFunc___impl_Wrote_impl_Wrote_
  rw [e, if_pos (by omega), hl]
  refine congrArg k ?_
  have hg : ∀ j, j < i → (asInt (cOf (a.take i) j 0) == st) = std.eq (std.rint a (j : Int) 0) st := fun j hj => by
    rw [std_eq, std_rint, Int.toNat_natCast]
    unfold cOf
    rw [List.getD_eq_getElem?_getD, List.getElem?_take_of_lt hj, ← List.getD_eq_getElem?_getD]
  rw [Bool.eq_iff_iff, List.any_eq_true, Bool.not_eq_true', Bool.eq_false_iff, Ne, allB_iff]
  constructor
  · rintro ⟨j, hj, hp⟩ h
    have hj := List.mem_range.1 hj
    have := h j hj
    rw [← hg j hj, hp] at this
    cases this
  · intro h
    refine Classical.byContradiction fun h2 => h fun j hj => ?_
    rw [← hg j hj]
    cases hp : (asInt (cOf (a.take i) j 0) == st)
    · rfl
    · exact absurd ⟨j, List.mem_range.2 hj, hp⟩ h2
def wroteOk (a : List (List C)) (i : Nat) : Bool := inB (std.rint a (i : Int) 0) 1 1000000 && (inB (std.rint a (i : Int) 1) 1 99 && (rowsOk (std.rsv 2 a (i : Int) 2) && allB (fun j => !(std.eq (std.rint a (j : Int) 0) (std.rint a (i : Int) 0))) i))
def histB (a : List (List C)) : Bool := !(std.lt 200 (std.rlen a)) && allB (wroteOk a) a.length
theorem HistOk_l2 (c1 : spec_l1In_T) (c2 : spec_RowsOk_T) (a : List (List C)) (hb : a.length ≤ 1048576) (i : Nat) (hi : i < a.length) (kret : Bool → R) (kx : List (List C) → Int → R) (N : Nat) (hN : i < N) :
    spec_HistOk_l2 std c1 c2 N a (i : Int) 0 kret kx = bif allB (fun j => !(std.eq (std.rint a (j : Int) 0) (std.rint a (i : Int) 0))) i then kx a (i : Int) else kret false := by
  refine loop_all0 (F := fun n j => spec_HistOk_l2 std c1 c2 n a (i : Int) j kret kx) hN (fun n j hj => ?_) (fun n => ?_)
  · simp only [spec_HistOk_l2, std_rlen, lt_nat_t hj, inb_nat_t hi, inb_nat_t (show j < a.length by omega), bt, add1 (i := j) (by omega)]
    cases std.eq (std.rint a (j : Int) 0) (std.rint a (i : Int) 0) <;> rfl
  · simp only [spec_HistOk_l2, lt_nat_f (Nat.le_refl _), bf]
theorem HistOk_sp (a : List (List C)) (hb : bWroteS a) (k : Bool → R) : spec_HistOk std a k = k (histB a) := by
  have hb1 := hb.1
  unfold spec_HistOk spec_HistOk_f histB
  generalize hF : std.fuel = N
  have hN : 4294967296 = N := hF
  have lp : spec_HistOk_l0 std (spec_l1In std) (spec_RowsOk std) N a 0 (fun t => k t) (fun _ => k true) = bif allB (wroteOk a) a.length then k true else k false := by
    refine loop_all0 (F := fun m i => spec_HistOk_l0 std (spec_l1In std) (spec_RowsOk std) m a i (fun t => k t) (fun _ => k true)) (by omega) (fun m i hi => ?_) (fun m => ?_)
    · have b1 : (std.rsv 2 a (i : Int) 2).length ≤ 1048576 := hb.2 i hi
      have hl2 := fun kr (kx : List (List C) → Int → R) => HistOk_l2 (spec_l1In std) (spec_RowsOk std) a hb1 i hi kr kx N (by omega)
      simp only [spec_HistOk_l0, std_rlen, lt_nat_t hi, inb_nat_t hi, bt, in_val, (RowsOk_val _ b1 _).1, hF, hl2, wroteOk, bif_not, bif_and, add1 (i := i) (by omega)]
    · simp only [spec_HistOk_l0, std_rlen, lt_nat_f (Nat.le_refl _), bf]
  rw [lp]
  cases std.lt 200 (std.rlen a) <;> cases allB (wroteOk a) a.length <;> rfl
theorem HistOk_im (a : List (List C)) (hb : bWroteS a) (k : Bool → R) : impl_HistOk std a k = k (histB a) := by
  have hb1 := hb.1
  unfold impl_HistOk impl_HistOk_f histB
  generalize hF : std.fuel = N
  have hN : 4294967296 = N := hF
  have lp : impl_HistOk_l0 std (impl_within std) (impl_isOwner std) (impl_RowsOk std) (slices_ContainsFunc___impl_Wrote_impl_Wrote_ std) N a a (std.rlen a) 0 (fun t => k t) (fun l => k (std.le (std.rlen l) 200)) = bif allB (wroteOk a) a.length then k (std.le (std.rlen a) 200) else k false := by
    refine loop_all0 (F := fun m i => impl_HistOk_l0 std (impl_within std) (impl_isOwner std) (impl_RowsOk std) (slices_ContainsFunc___impl_Wrote_impl_Wrote_ std) m a a (std.rlen a) i (fun t => k t) (fun l => k (std.le (std.rlen l) 200))) (by omega) (fun m i hi => ?_) (fun m => ?_)
    · have b1 : (std.rsv 2 a (i : Int) 2).length ≤ 1048576 := hb.2 i hi
      have es : std.subb 0 (i : Int) (a.length : Int) = true := decide_eq_true (by omega)
      simp only [impl_HistOk_l0, std_rlen, lt_nat_t hi, inb_nat_t hi, bt, in_val', own_val, (RowsOk_val _ b1 _).2, es, con_val a hb1 i (by omega), wroteOk, bif_not, bif_and, add1 (i := i) (by omega)]
      cases inB (std.rint a (i : Int) 0) 1 1000000 <;> cases inB (std.rint a (i : Int) 1) 1 99 <;> cases rowsOk (std.rsv 2 a (i : Int) 2) <;> cases allB (fun j => !(std.eq (std.rint a (j : Int) 0) (std.rint a (i : Int) 0))) i <;> rfl
    · simp only [impl_HistOk_l0, std_rlen, lt_nat_f (Nat.le_refl _), bf]
  rw [lp, le_lt]
  cases std.lt 200 (std.rlen a) <;> cases allB (wroteOk a) a.length <;> rfl
end X
