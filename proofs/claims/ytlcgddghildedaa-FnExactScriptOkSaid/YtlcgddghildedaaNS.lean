/- Models of the functions, or plain laws about them; each theorem states its own conditions. -/
import Derived.Test.YtlcgddghildedaaNTs
import Derived.Test.YtlcgddghildedaaNK
set_option linter.unusedVariables false
set_option linter.unusedSimpArgs false
open Go.Proofs
namespace X
open PM Go

/-! ## ScriptOk -/
theorem l3Vals_val (l : List Int) (hb : l.length ≤ 1048576) (k : Bool → R) : spec_l3Vals std l k = k (valsB l 8) := by
  unfold spec_l3Vals spec_l3Vals_f valsB
  generalize hN : std.fuel = N
  have hN : 4294967296 = N := hN
  have lp : spec_l3Vals_l0 std (spec_l3Val std) N l 0 (fun t => k t) (fun _ => k true) = bif allB (fun i => valB (std.iget l (i : Int))) l.length then k true else k false := by
    refine loop_all0 (F := fun m i => spec_l3Vals_l0 std (spec_l3Val std) m l i (fun t => k t) (fun _ => k true)) (by omega) (fun m i hi => ?_) (fun m => ?_)
    · simp only [spec_l3Vals_l0, std_ilen, lt_nat_t hi, inb_nat_t hi, bt, val_val, bif_not, add1 (i := i) (by omega)]
    · simp only [spec_l3Vals_l0, std_ilen, lt_nat_f (Nat.le_refl _), bf]
  rw [lp]
  cases std.eq (std.ilen l) 8 <;> cases allB (fun i => valB (std.iget l (i : Int))) l.length <;> rfl
def mapB (l : List Int) : Bool := std.eq (std.ilen l) 8 && allB (fun i => inB (std.iget l (i : Int)) 0 65536) l.length
def thingsB (c m : List Int) (n : Int) : Bool := valsB c 8 && (mapB m && valB n)
theorem ThingsOk_sp (c m : List Int) (n : Int) (h1 : c.length ≤ 1048576) (h2 : m.length ≤ 1048576) (k : Bool → R) : spec_ThingsOk std c m n k = k (thingsB c m n) := by
  unfold spec_ThingsOk spec_ThingsOk_f thingsB mapB
  generalize hN : std.fuel = N
  have hN : 4294967296 = N := hN
  have lp : spec_ThingsOk_l0 std (spec_l1In std) (spec_l3Val std) (spec_l3Vals std) N 0 c m n (fun t => k t) (fun _ => k true) = bif allB (fun i => inB (std.iget m (i : Int)) 0 65536) m.length then k true else k false := by
    refine loop_all0 (F := fun q i => spec_ThingsOk_l0 std (spec_l1In std) (spec_l3Val std) (spec_l3Vals std) q i c m n (fun t => k t) (fun _ => k true)) (by omega) (fun q i hi => ?_) (fun q => ?_)
    · simp only [spec_ThingsOk_l0, std_ilen, lt_nat_t hi, inb_nat_t hi, bt, in_val, bif_not, add1 (i := i) (by omega)]
    · simp only [spec_ThingsOk_l0, std_ilen, lt_nat_f (Nat.le_refl _), bf]
  simp only [l3Vals_val c h1, val_val, lp]
  cases valsB c 8 <;> cases std.eq (std.ilen m) 8 <;> cases valB n <;> cases allB (fun i => inB (std.iget m (i : Int)) 0 65536) m.length <;> rfl
theorem isMap_val (m : List Int) (h2 : m.length ≤ 1048576) (k : Bool → R) : impl_isMap std m k = k (mapB m) := by
  unfold impl_isMap impl_isMap_f mapB
  generalize hN : std.fuel = N
  have hN : 4294967296 = N := hN
  have lp : impl_isMap_l0 std (impl_within std) N m m (std.ilen m) 0 (fun t => k t) (fun l => k (std.eq (std.ilen l) 8)) = bif allB (fun i => inB (std.iget m (i : Int)) 0 65536) m.length then k (std.eq (std.ilen m) 8) else k false := by
    refine loop_all0 (F := fun q i => impl_isMap_l0 std (impl_within std) q m m (std.ilen m) i (fun t => k t) (fun l => k (std.eq (std.ilen l) 8))) (by omega) (fun q i hi => ?_) (fun q => ?_)
    · simp only [impl_isMap_l0, std_ilen, lt_nat_t hi, inb_nat_t hi, bt, in_val', bif_not, add1 (i := i) (by omega)]
    · simp only [impl_isMap_l0, std_ilen, lt_nat_f (Nat.le_refl _), bf]
  rw [lp]
  cases std.eq (std.ilen m) 8 <;> cases allB (fun i => inB (std.iget m (i : Int)) 0 65536) m.length <;> rfl
theorem ThingsOk_im (c m : List Int) (n : Int) (h1 : c.length ≤ 1048576) (h2 : m.length ≤ 1048576) (k : Bool → R) : impl_ThingsOk std c m n k = k (thingsB c m n) := by
  unfold impl_ThingsOk impl_ThingsOk_f thingsB
  simp only [areValues_val c h1, isMap_val m h2, val_val']
  cases valsB c 8 <;> cases mapB m <;> cases valB n <;> rfl
theorem HasFork_im (l : List (List Int)) (hb : l.length ≤ 1048576) (k : Bool → R) : impl_HasFork std l k = k (forkB l) := by
  unfold impl_HasFork impl_HasFork_f slices_ContainsFunc___impl_Op_impl_Op_ slices_ContainsFunc___impl_Op_impl_Op__f slices_IndexFunc___impl_Op_impl_Op_ slices_IndexFunc___impl_Op_impl_Op__f forkB
  generalize hF : std.fuel = N
  have hN : 4294967296 = N := hF
  rw [std_vlen]
  exact loop_any (p := fun i => std.eq (std.vget l (i : Int) 0) 11) (k := k) (F := fun n i => slices_IndexFunc___impl_Op_impl_Op__l0 std (impl_HasFork_1 std) n l l.length i (fun t => k (std.le 0 t)) (fun _ => k (std.le 0 (-1)))) (len := l.length) (N := N) (by omega)
    (fun n i hi => by simp only [slices_IndexFunc___impl_Op_impl_Op__l0, std_vlen, lt_nat_t hi, inb_nat_t hi, bt, impl_HasFork_1, impl_HasFork_1_f, add1 (i := i) (by omega)])
    (fun n => by simp only [slices_IndexFunc___impl_Op_impl_Op__l0, std_vlen, lt_nat_f (Nat.le_refl _), bf])
noncomputable def progB (c : List (List Int)) (a : List (List C)) : Bool := codeB c && (!(std.lt 3 (std.rlen a)) && (std.beq (forkB c) (std.lt 0 (std.rlen a)) && allB (fun i => kidB (std.rsv 4 a (i : Int) 0)) a.length))
theorem ProgOk_sp (c : List (List Int)) (a : List (List C)) (h1 : c.length ≤ 1048576) (h2 : bKidS a) (k : Bool → R) : spec_ProgOk std c a k = k (progB c a) := by
  have hb := h2.1
  unfold spec_ProgOk spec_ProgOk_f progB
  generalize hN : std.fuel = N
  have hN : 4294967296 = N := hN
  have lp : spec_ProgOk_l0 std (spec_CodeOk std) (spec_HasFork std) (spec_KidOk std) N 0 c a (fun t => k t) (fun _ => k true) = bif allB (fun i => kidB (std.rsv 4 a (i : Int) 0)) a.length then k true else k false := by
    refine loop_all0 (F := fun q i => spec_ProgOk_l0 std (spec_CodeOk std) (spec_HasFork std) (spec_KidOk std) q i c a (fun t => k t) (fun _ => k true)) (by omega) (fun q i hi => ?_) (fun q => ?_)
    · have b1 : (std.rsv 4 a (i : Int) 0).length ≤ 1048576 := h2.2 i hi
      simp only [spec_ProgOk_l0, std_rlen, lt_nat_t hi, inb_nat_t hi, bt, KidOk_sp _ b1, bif_not, add1 (i := i) (by omega)]
    · simp only [spec_ProgOk_l0, std_rlen, lt_nat_f (Nat.le_refl _), bf]
  simp only [CodeOk_sp c h1, HasFork_sp c h1, lp]
  cases codeB c <;> cases std.lt 3 (std.rlen a) <;> cases std.beq (forkB c) (std.lt 0 (std.rlen a)) <;> cases allB (fun i => kidB (std.rsv 4 a (i : Int) 0)) a.length <;> rfl
theorem ProgOk_im (c : List (List Int)) (a : List (List C)) (h1 : c.length ≤ 1048576) (h2 : bKidS a) (k : Bool → R) : impl_ProgOk std c a k = k (progB c a) := by
  have hb := h2.1
  unfold impl_ProgOk impl_ProgOk_f progB
  generalize hN : std.fuel = N
  have hN : 4294967296 = N := hN
  have lp : ∀ kx : List (List Int) → List (List C) → R, impl_ProgOk_l0 std (impl_CodeOk std) (impl_KidOk std) (impl_HasFork std) N a (std.rlen a) 0 c a (fun t => k t) kx = bif allB (fun i => kidB (std.rsv 4 a (i : Int) 0)) a.length then kx c a else k false := fun kx => by
    refine loop_all0 (F := fun q i => impl_ProgOk_l0 std (impl_CodeOk std) (impl_KidOk std) (impl_HasFork std) q a (std.rlen a) i c a (fun t => k t) kx) (by omega) (fun q i hi => ?_) (fun q => ?_)
    · have b1 : (std.rsv 4 a (i : Int) 0).length ≤ 1048576 := h2.2 i hi
      simp only [impl_ProgOk_l0, std_rlen, lt_nat_t hi, inb_nat_t hi, bt, KidOk_im _ b1, bif_not, add1 (i := i) (by omega)]
    · simp only [impl_ProgOk_l0, std_rlen, lt_nat_f (Nat.le_refl _), bf]
  simp only [lp, CodeOk_im c h1, HasFork_im c h1, le_lt]
  cases codeB c <;> cases std.lt 3 (std.rlen a) <;> cases std.beq (forkB c) (std.lt 0 (std.rlen a)) <;> cases allB (fun i => kidB (std.rsv 4 a (i : Int) 0)) a.length <;> rfl
noncomputable def scriptB (c m : List Int) (n : Int) (a : List (List C)) (t : List (List Int)) : Bool := thingsB c m n && (!(std.lt 4 (std.rlen a)) && (!(std.lt 400 (std.vlen t)) && allB (fun i => progB (std.rsv 4 a (i : Int) 0) (std.rsr a (i : Int) 1)) a.length))
theorem ScriptOk_sp (c m : List Int) (n : Int) (a : List (List C)) (t : List (List Int)) (h1 : c.length ≤ 1048576) (h2 : m.length ≤ 1048576) (h3 : bProgS a) (k : Bool → R) : spec_ScriptOk std c m n a t k = k (scriptB c m n a t) := by
  have hb := h3.1
  unfold spec_ScriptOk spec_ScriptOk_f scriptB
  generalize hN : std.fuel = N
  have hN : 4294967296 = N := hN
  have lp : spec_ScriptOk_l0 std (spec_ThingsOk std) (spec_ProgOk std) N 0 c m n a t (fun t => k t) (fun _ => k true) = bif allB (fun i => progB (std.rsv 4 a (i : Int) 0) (std.rsr a (i : Int) 1)) a.length then k true else k false := by
    refine loop_all0 (F := fun q i => spec_ScriptOk_l0 std (spec_ThingsOk std) (spec_ProgOk std) q i c m n a t (fun t => k t) (fun _ => k true)) (by omega) (fun q i hi => ?_) (fun q => ?_)
    · obtain ⟨b1, b2⟩ := h3.2 i hi
      simp only [spec_ScriptOk_l0, std_rlen, lt_nat_t hi, inb_nat_t hi, bt, ProgOk_sp _ _ b1 b2, bif_not, add1 (i := i) (by omega)]
    · simp only [spec_ScriptOk_l0, std_rlen, lt_nat_f (Nat.le_refl _), bf]
  simp only [ThingsOk_sp c m n h1 h2, lp]
  cases thingsB c m n <;> cases std.lt 4 (std.rlen a) <;> cases std.lt 400 (std.vlen t) <;> cases allB (fun i => progB (std.rsv 4 a (i : Int) 0) (std.rsr a (i : Int) 1)) a.length <;> rfl
theorem ScriptOk_im (c m : List Int) (n : Int) (a : List (List C)) (t : List (List Int)) (h1 : c.length ≤ 1048576) (h2 : m.length ≤ 1048576) (h3 : bProgS a) (k : Bool → R) : impl_ScriptOk std c m n a t k = k (scriptB c m n a t) := by
  have hb := h3.1
  have con : ∀ k : Bool → R, slices_ContainsFunc___impl_Prog_impl_Prog_ std a k = k (!(allB (fun i => progB (std.rsv 4 a (i : Int) 0) (std.rsr a (i : Int) 1)) a.length)) := fun k => by
    unfold slices_ContainsFunc___impl_Prog_impl_Prog_ slices_ContainsFunc___impl_Prog_impl_Prog__f slices_IndexFunc___impl_Prog_impl_Prog_ slices_IndexFunc___impl_Prog_impl_Prog__f
    generalize hF : std.fuel = N
    have hN : 4294967296 = N := hF
    rw [std_rlen]
    have lp := loop_any (p := fun i => std.not (progB (std.rsv 4 a (i : Int) 0) (std.rsr a (i : Int) 1))) (k := k) (F := fun n i => slices_IndexFunc___impl_Prog_impl_Prog__l0 std (impl_ScriptOk_1 std) n a a.length i (fun t => k (std.le 0 t)) (fun _ => k (std.le 0 (-1)))) (len := a.length) (N := N) (by omega)
      (fun n i hi => by
        obtain ⟨b1, b2⟩ := h3.2 i hi
        simp only [slices_IndexFunc___impl_Prog_impl_Prog__l0, std_rlen, lt_nat_t hi, inb_nat_t hi, bt, impl_ScriptOk_1, impl_ScriptOk_1_f, ProgOk_im _ _ b1 b2, add1 (i := i) (by omega)])
      (fun n => by simp only [slices_IndexFunc___impl_Prog_impl_Prog__l0, std_rlen, lt_nat_f (Nat.le_refl _), bf])
    refine lp.trans (congrArg k ?_)
    have : (fun i : Nat => !(std.not (progB (std.rsv 4 a (i : Int) 0) (std.rsr a (i : Int) 1)))) = fun i : Nat => progB (std.rsv 4 a (i : Int) 0) (std.rsr a (i : Int) 1) := by funext i; cases progB (std.rsv 4 a (i : Int) 0) (std.rsr a (i : Int) 1) <;> rfl
    rw [this]
  unfold impl_ScriptOk impl_ScriptOk_f scriptB
  simp only [ThingsOk_im c m n h1 h2, con, le_lt]
  cases thingsB c m n <;> cases std.lt 4 (std.rlen a) <;> cases std.lt 400 (std.vlen t) <;> cases allB (fun i => progB (std.rsv 4 a (i : Int) 0) (std.rsr a (i : Int) 1)) a.length <;> rfl
theorem ScriptOk_true (c m : List Int) (n : Int) (a : List (List C)) (t : List (List Int)) (f1 : FitArr cx (.ints 3 .i64 c)) (f2 : FitArr cx (.ints 3 .i64 m)) (f3 : IntKind.i64.min ≤ n ∧ n ≤ IntKind.i64.max) (f4 : FitArr cx (.rows 317 a)) (f5 : FitArr cx (.vecs 322 3 t)) (k : Bool → R) :
    laws_FnExactScriptOk std c m n a t k = k true := by
  obtain ⟨v, v1, v2, v3⟩ := szScript_v c m n a t f1.1 f2.1 f4 f5.1 1048576 (by omega) (by omega)
  unfold laws_FnExactScriptOk laws_FnExactScriptOk_f
  simp only [v3]
  by_cases hc : v < 0
  · simp only [lt0_t hc, bt]
  · obtain ⟨b1, b2, b4, b5⟩ := v2 (by omega)
    have c4 := bProgS_n _ b4
    simp only [lt0_f hc, bf, toScript_v c m n a t b1 b2 b4 b5 (wd f5), ScriptOk_sp _ _ _ _ _ b1 b2 c4, ScriptOk_im _ _ _ _ _ b1 b2 c4, bsame, eqScript_r c m n _ t b1 b2 c4 b5, not_true']
end X
