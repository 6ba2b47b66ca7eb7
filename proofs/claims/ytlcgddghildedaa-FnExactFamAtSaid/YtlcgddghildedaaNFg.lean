/- Models of the functions, or plain laws about them; each theorem states its own conditions. -/
import Derived.Test.YtlcgddghildedaaNFm
set_option linter.unusedVariables false
set_option linter.unusedSimpArgs false
open Go.Proofs
namespace X
open PM Go
/-! ## FamRegs -/
theorem l4Regs_val (l : List Int) (hb : l.length ≤ 1048576) (k : Bool → R) : spec_l4Regs std l k = k (valsB l 4) := by
  unfold spec_l4Regs spec_l4Regs_f valsB
  generalize hN : std.fuel = N
  have hN : 4294967296 = N := hN
  have lp : spec_l4Regs_l0 std (spec_l3Val std) N l 0 (fun t => k t) (fun _ => k true) = bif allB (fun i => valB (std.iget l (i : Int))) l.length then k true else k false := by
    refine loop_all0 (F := fun m i => spec_l4Regs_l0 std (spec_l3Val std) m l i (fun t => k t) (fun _ => k true)) (by omega) (fun m i hi => ?_) (fun m => ?_)
    · simp only [spec_l4Regs_l0, std_ilen, lt_nat_t hi, inb_nat_t hi, bt, val_val, bif_not, add1 (i := i) (by omega)]
    · simp only [spec_l4Regs_l0, std_ilen, lt_nat_f (Nat.le_refl _), bf]
  rw [lp]
  cases std.eq (std.ilen l) 4 <;> cases allB (fun i => valB (std.iget l (i : Int))) l.length <;> rfl
def frB (K : List (List C)) (i : Nat) : Bool := std.eq (std.rint K (i : Int) 5) 1 && valsB (std.rsi K (i : Int) 6) 4
def frG (K : List (List C)) (i : Nat) (o : List Int) : List Int := bif frB K i then std.iset (std.iset o (i : Int) 0) (i : Int) (std.iget (std.rsi K (i : Int) 6) 0) else std.iset o (i : Int) 0
def fr (regs : List Int) (K : List (List C)) : List Int := bif valsB regs 4 then (bif std.lt 3 (std.rlen K) then [] else foldN (frG K) K.length 0 regs) else []
theorem frG_len (K : List (List C)) (i : Nat) (o : List Int) (h : o.length = 4) : (frG K i o).length = 4 := by
  unfold frG
  cases frB K i
  · show (std.iset o (i : Int) 0).length = 4
    rw [std_iset, List.length_set, h]
  · show (std.iset (std.iset o (i : Int) 0) (i : Int) _).length = 4
    rw [std_iset, List.length_set, std_iset, List.length_set, h]
theorem fr_len (regs : List Int) (K : List (List C)) : (fr regs K).length ≤ 1048576 := by
  unfold fr
  cases hv : valsB regs 4
  · simp
  · cases std.lt 3 (std.rlen K)
    · have := foldN_P (P := fun o : List Int => o.length = 4) (len := K.length) (fun i o _ => frG_len K i o) _ 0 regs (Nat.zero_add _) (valsB_len (n := 4) hv)
      show (foldN (frG K) K.length 0 regs).length ≤ _
      omega
    · simp
theorem FamRegs_val (rv ck ow : Int) (lo : Bool) (regs : List Int) (start buf : List (List Int)) (order : List Int) (reads : List (List Int)) (K : List (List C)) (hr : regs.length ≤ 1048576) (hK : bKidRunS K) (k : List Int → R) :
    spec_FamRegs std rv ck ow lo regs start buf order reads K k = k (fr regs K) ∧ impl_FamRegs std rv ck ow lo regs start buf order reads K k = k (fr regs K) := by
  unfold spec_FamRegs spec_FamRegs_f impl_FamRegs impl_FamRegs_f fr
  simp only [l4Regs_val regs hr, areValues_val regs hr]
  cases hv : valsB regs 4
  · exact ⟨rfl, rfl⟩
  have h4 : regs.length = 4 := valsB_len (n := 4) hv
  simp only [not_true', bf, bt]
  cases hk : std.lt 3 (std.rlen K)
  case true => exact ⟨rfl, rfl⟩
  have hk3 : K.length ≤ 3 := by rw [std_lt, std_rlen] at hk; have h := of_decide_eq_false hk; exact Int.ofNat_le.1 (show (K.length : Int) ≤ ((3 : Nat) : Int) by omega)
  have e13 : ∀ kk : List Int → R, spec_l13Ints std regs kk = kk regs := fun kk => by
    unfold spec_l13Ints spec_l13Ints_f
    have e : std.room (std.ilen []) (std.ilen regs) = true := by rw [std_room]; exact decide_eq_true (by simp; omega)
    simp only [e, bt]
    rfl
  simp only [bf, e13, copyInts_val regs hr]
  generalize hN : std.fuel = N
  have hN : 4294967296 = N := hN
  have hq : ∀ (o : List Int) (i : Nat), i < K.length → o.length = 4 → std.inb (i : Int) (std.ilen o) = true := fun o i hi ho => by rw [std_ilen]; exact inb_nat_t (by omega)
  have hq2 : ∀ (o : List Int) (i : Nat), i < K.length → o.length = 4 → std.inb (i : Int) (std.ilen (std.iset o (i : Int) 0)) = true := fun o i hi ho => by rw [std_ilen, std_iset, List.length_set]; exact inb_nat_t (by omega)
  constructor
  · refine loop_fo (P := fun o : List Int => o.length = 4) (F := fun n i o => spec_FamRegs_l0 std (spec_l4Regs std) (spec_l13Ints std) n i rv ck ow lo regs start buf order reads K o (fun o => k o)) (by omega) (fun n i o hi hp => ?_) (fun i o _ h => frG_len K i o h) (fun n o _ => ?_) h4
    · have hl : (std.rsi K (i : Int) 6).length ≤ 1048576 := (hK.2 i hi).1
      simp only [spec_FamRegs_l0, std_rlen, lt_nat_t hi, inb_nat_t hi, bt, hq o i hi hp, hq2 o i hi hp, l4Regs_val _ hl, frG, frB, add1 (i := i) (by omega)]
      cases std.eq (std.rint K (i : Int) 5) 1
      · rfl
      · cases hv2 : valsB (std.rsi K (i : Int) 6) 4
        · rfl
        · have hz : std.inb 0 (std.ilen (std.rsi K (i : Int) 6)) = true := by rw [std_ilen, valsB_len (n := 4) hv2]; rfl
          simp only [bt, hz, Bool.and_true]
    · simp only [spec_FamRegs_l0, std_rlen, lt_nat_f (Nat.le_refl _), bf]
  · rw [std_rlen]
    refine loop_fo (P := fun o : List Int => o.length = 4) (F := fun n i o => impl_FamRegs_l0 std (impl_areValues std) (impl_copyInts std) n K K.length i o (fun o => k o)) (by omega) (fun n i o hi hp => ?_) (fun i o _ h => frG_len K i o h) (fun n o _ => ?_) h4
    · have hl : (std.rsi K (i : Int) 6).length ≤ 1048576 := (hK.2 i hi).1
      simp only [impl_FamRegs_l0, std_rlen, lt_nat_t hi, inb_nat_t hi, bt, hq o i hi hp, hq2 o i hi hp, areValues_val _ hl, frG, frB, add1 (i := i) (by omega)]
      cases std.eq (std.rint K (i : Int) 5) 1
      · rfl
      · cases hv2 : valsB (std.rsi K (i : Int) 6) 4
        · rfl
        · have hz : std.inb 0 (std.ilen (std.rsi K (i : Int) 6)) = true := by rw [std_ilen, valsB_len (n := 4) hv2]; rfl
          simp only [bt, hz, Bool.and_true]
    · simp only [impl_FamRegs_l0, lt_nat_f (Nat.le_refl _), bf]
theorem FamRegs_true (rv ck ow : Int) (lo : Bool) (regs : List Int) (start buf : List (List Int)) (order : List Int) (reads : List (List Int)) (kids : List (List C)) (g1 : IntKind.i64.min ≤ rv ∧ rv ≤ IntKind.i64.max) (g2 : IntKind.i64.min ≤ ck ∧ ck ≤ IntKind.i64.max) (g3 : IntKind.i64.min ≤ ow ∧ ow ≤ IntKind.i64.max) (f1 : FitArr cx (.ints 3 .i64 regs)) (f2 : FitArr cx (.vecs 297 2 start)) (f3 : FitArr cx (.vecs 299 3 buf)) (f4 : FitArr cx (.ints 3 .i64 order)) (f5 : FitArr cx (.vecs 297 2 reads)) (f6 : FitArr cx (.rows 295 kids)) (k : Bool → R) :
    laws_FnExactFamRegs std rv ck ow lo regs start buf order reads kids k = k true := by
  unfold laws_FnExactFamRegs laws_FnExactFamRegs_f
  generalize hT : [[(C.i rv), (.i ck), (.i ow), (.b lo), (.s (std.ofi regs)), (.s (std.ofv start)), (.s (std.ofv buf)), (.s (std.ofi order)), (.s (std.ofv reads)), (.s kids)]] = T
  obtain ⟨q0, q1, q2, q3, q4, q5, q6, q7, q8, q9⟩ := fam_read hT (wd f2) (wd f3) (wd f5)
  clear hT
  simp only [q0, q1, q2, q3, q4, q5, q6, q7, q8, q9]
  obtain ⟨v, v1, v2, v3⟩ := szFamily_v rv ck ow lo regs start buf order reads kids f1.1 f2.1 f3.1 f4.1 f5.1 f6 1048576 (by omega) (by omega)
  simp only [v3]
  by_cases hc : v < 0
  · simp only [lt0_t hc, bt]
  obtain ⟨b1, b2, b3, b4, b5, b6⟩ := v2 (by omega)
  have c6 := bKidRunS_n _ b6
  simp only [lt0_f hc, bf, toFamily_v rv ck ow lo regs start buf order reads kids b1 b2 (wd f2) b3 (wd f3) b4 b5 (wd f5) b6, (FamRegs_val rv ck ow lo regs start buf order reads (nKidRunS kids) b1 c6 _).1, (FamRegs_val rv ck ow lo regs start buf order reads (nKidRunS kids) b1 c6 _).2]
  have hl := fr_len regs (nKidRunS kids)
  generalize fr regs (nKidRunS kids) = g at hl
  obtain ⟨m, m1, m2⟩ := markFamily_eq rv ck ow lo regs start buf order reads (nKidRunS kids) b1 b2 b3 b4 b5 c6 1 (by omega) (by omega)
  simp only [eqIntS_r g hl, not_true', bf, eqFamily_r rv ck ow lo regs start buf order reads (nKidRunS kids) b1 b2 b3 b4 b5 c6, m2, ge0_f m1, markIntS_eq g 1 (by omega) (by omega) (by omega), heldIntS_eq 1 g.length (by omega) (by omega) (by omega),
    ge0_f (show (0 : Int) ≤ 1 + (g.length : Int) by omega), eq_self]
end X
