/- Models of the functions, or plain laws about them; each theorem states its own conditions. -/
import Derived.Test.YtlcgddghildedaaNC
set_option linter.unusedVariables false
set_option linter.unusedSimpArgs false
open Go.Proofs
namespace X
open PM Go

def frk (l : List (List Int)) : Nat → Int
  | 0 => 0
  | i + 1 => frk l i + (bif std.eq (kd l i) 11 then 1 else 0)
theorem frk_r (l : List (List Int)) : ∀ j : Nat, 0 ≤ frk l j ∧ frk l j ≤ j
  | 0 => by unfold frk; omega
  | j + 1 => by
    have h1 := frk_r l j
    unfold frk
    cases std.eq (kd l j) 11
    · simp only [bf]; omega
    · simp only [bt]; omega
theorem kcase (x : Int) : x = 8 ∨ x = 9 ∨ x = 7 ∨ x = 11 ∨ (std.eq x 8 = false ∧ std.eq x 9 = false ∧ std.eq x 7 = false ∧ std.eq x 11 = false) := by
  have e : ∀ n : Int, x ≠ n → std.eq x n = false := fun n h => beq_eq_false_iff_ne.2 h
  by_cases h8 : x = 8
  · exact .inl h8
  by_cases h9 : x = 9
  · exact .inr (.inl h9)
  by_cases h7 : x = 7
  · exact .inr (.inr (.inl h7))
  by_cases h11 : x = 11
  · exact .inr (.inr (.inr (.inl h11)))
  exact .inr (.inr (.inr (.inr ⟨e 8 h8, e 9 h9, e 7 h7, e 11 h11⟩)))
noncomputable def opS (l : List (List Int)) (i : Nat) : Bool := opB (std.vget l (i : Int) 0) (std.vget l (i : Int) 1) (std.vget l (i : Int) 2) (std.vget l (i : Int) 3)
def skS (l : List (List Int)) (i : Nat) : Bool := bif std.eq (kd l i) 7 then !(std.lt (std.vlen l) (std.add .i64 (std.add .i64 (i : Int) 1) (std.vget l (i : Int) 2))) && balB l (i + 1) (std.vget l (i : Int) 2).toNat else true
def nnS (l : List (List Int)) (i : Nat) : Bool := !(std.lt (dep l 0 (i + 1)) 0)
def fkS (l : List (List Int)) (i : Nat) : Bool := bif std.eq (kd l i) 11 then !(std.lt 0 (dep l 0 i)) && !(std.lt 1 (std.add .i64 (frk l i) 1)) else true
def fkI (l : List (List Int)) (i : Nat) : Bool := bif std.eq (kd l i) 11 then !(std.lt 1 (std.add .i64 (frk l i) 1)) && std.eq (dep l 0 i) 0 else true
noncomputable def codeB (l : List (List Int)) : Bool := !(std.lt 24 (std.vlen l)) && (allB (fun i => opS l i && (skS l i && (fkS l i && nnS l i))) l.length && std.eq (dep l 0 l.length) 0)
theorem dep_s (l : List (List Int)) (i : Nat) : dep l 0 (i + 1) = dep l 0 i + opn (std.vget l (i : Int) 0) := by
  show dep l 0 i + opn (kd l (0 + i)) = _
  rw [Nat.zero_add]; rfl
theorem CodeOk_sp (l : List (List Int)) (hb : l.length ≤ 1048576) (k : Bool → R) : spec_CodeOk std l k = k (codeB l) := by
  unfold spec_CodeOk spec_CodeOk_f codeB
  generalize hF : std.fuel = N
  have hN : 4294967296 = N := hF
  have lp : spec_CodeOk_l0 std (spec_OpOk std) (spec_l5Skip std) N l 0 0 0 (fun t => k t) (fun d => k (std.eq d 0)) = bif allB (fun i => opS l i && (skS l i && (fkS l i && nnS l i))) l.length then k (std.eq (dep l 0 l.length) 0) else k false := by
    refine loop_all0 (F := fun n z => spec_CodeOk_l0 std (spec_OpOk std) (spec_l5Skip std) n l (dep l 0 z.toNat) (frk l z.toNat) z (fun t => k t) (fun d => k (std.eq d 0))) (by omega) (fun n i hi => ?_) (fun n => ?_)
    · have r := dep_r l 0 i
      have r2 := frk_r l i
      have ds := dep_s l i
      have fs : frk l (i + 1) = frk l i + (bif std.eq (std.vget l (i : Int) 0) 11 then 1 else 0) := rfl
      have ad : std.add .i64 (dep l 0 i) 1 = dep l 0 i + 1 := addw (by omega) (by omega)
      have sb : std.sub .i64 (dep l 0 i) 1 = dep l 0 i + -1 := by rw [subw (by omega) (by omega)]; omega
      have fa : std.add .i64 (frk l i) 1 = frk l i + 1 := addw (by omega) (by omega)
      simp only [spec_CodeOk_l0, std_vlen, lt_nat_t hi, inb_nat_t hi, bt, OpOk_val, Int.toNat_natCast, add1 (i := i) (by omega), opS]
      cases hop : opB (std.vget l (i : Int) 0) (std.vget l (i : Int) 1) (std.vget l (i : Int) 2) (std.vget l (i : Int) 3)
      · rfl
      · have nt : std.not true = false := rfl
        simp only [nt, bf, skS, fkS, nnS, kd, ds, fs, Bool.true_and]
        rcases kcase (std.vget l (i : Int) 0) with h | h | h | h | ⟨h8, h9, h7, h11⟩
        · simp only [h, opn, show std.eq 8 8 = true from rfl, show std.eq 8 7 = false from rfl, show std.eq 8 11 = false from rfl, bt, bf, ad, Bool.true_and, Int.add_zero]
          cases std.lt (dep l 0 i + 1) 0 <;> rfl
        · simp only [h, opn, show std.eq 9 8 = false from rfl, show std.eq 9 9 = true from rfl, show std.eq 9 7 = false from rfl, show std.eq 9 11 = false from rfl, bt, bf, sb, Bool.true_and, Int.add_zero]
          cases std.lt (dep l 0 i + -1) 0 <;> rfl
        · have hs := op7 (std.vget l (i : Int) 1) (std.vget l (i : Int) 2) (std.vget l (i : Int) 3) (by rw [h] at hop; exact hop)
          have sv := fun kk => Skip_val l hb i hi hs.1 hs.2 kk
          simp only [h, opn, show std.eq 7 8 = false from rfl, show std.eq 7 9 = false from rfl, show std.eq 7 7 = true from rfl, show std.eq 7 11 = false from rfl, bt, bf, sv, std_vlen, Bool.true_and, Int.add_zero]
          generalize (!(std.lt (l.length : Int) (std.add .i64 (std.add .i64 (i : Int) 1) (std.vget l (i : Int) 2))) && balB l (i + 1) (std.vget l (i : Int) 2).toNat) = q
          cases q <;> cases std.lt (dep l 0 i) 0 <;> rfl
        · simp only [h, opn, show std.eq 11 8 = false from rfl, show std.eq 11 9 = false from rfl, show std.eq 11 7 = false from rfl, show std.eq 11 11 = true from rfl, bt, bf, fa, Bool.true_and, Int.add_zero]
          cases std.lt 0 (dep l 0 i) <;> cases std.lt 1 (frk l i + 1) <;> cases std.lt (dep l 0 i) 0 <;> rfl
        · simp only [opn, h8, h9, h7, h11, bt, bf, Bool.true_and, Int.add_zero]
          cases std.lt (dep l 0 i) 0 <;> rfl
    · simp only [spec_CodeOk_l0, std_vlen, lt_nat_f (Nat.le_refl _), bf, Int.toNat_natCast]
  rw [lp]
  cases std.lt 24 (std.vlen l) <;> cases allB (fun i => opS l i && (skS l i && (fkS l i && nnS l i))) l.length <;> rfl
theorem kd_sub (l : List (List Int)) (a m j : Nat) (hj : j < m) : kd ((l.drop a).take m) j = kd l (a + j) := by
  unfold kd
  rw [std_vget, std_vget, Int.toNat_natCast, Int.toNat_natCast]
  simp only [List.getD_eq_getElem?_getD, List.getElem?_take_of_lt hj, List.getElem?_drop]
theorem dep_sub (l : List (List Int)) (a m : Nat) : ∀ j, j ≤ m → dep ((l.drop a).take m) 0 j = dep l a j
  | 0, _ => rfl
  | j + 1, h => by
    show dep ((l.drop a).take m) 0 j + opn (kd ((l.drop a).take m) (0 + j)) = dep l a j + opn (kd l (a + j))
    rw [dep_sub l a m j (by omega), Nat.zero_add, kd_sub l a m j (by omega)]
theorem allB_congr {p q : Nat → Bool} {n : Nat} (h : ∀ i, i < n → p i = q i) : allB p n = allB q n := by
  rw [Bool.eq_iff_iff, allB_iff, allB_iff]
  exact ⟨fun g i hi => by rw [← h i hi]; exact g i hi, fun g i hi => by rw [h i hi]; exact g i hi⟩
theorem bal_sub (l : List (List Int)) (a m : Nat) (h : a + m ≤ l.length) : balB ((l.drop a).take m) 0 ((l.drop a).take m).length = balB l a m := by
  have hl : ((l.drop a).take m).length = m := by simp; omega
  unfold balB
  rw [hl, dep_sub l a m m (Nat.le_refl _), allB_congr (fun i hi => by rw [dep_sub l a m (i + 1) (by omega)])]
noncomputable def codeI (l : List (List Int)) : Bool := !(std.lt 24 (std.vlen l)) && (balB l 0 l.length && allB (fun i => opS l i && (skS l i && fkI l i)) l.length)
theorem codeI_eq (l : List (List Int)) : codeI l = codeB l := by
  unfold codeI codeB
  congr 1
  rw [Bool.eq_iff_iff, Bool.and_eq_true, Bool.and_eq_true, allB_iff, allB_iff]
  unfold balB
  rw [Bool.and_eq_true, allB_iff]
  have nn : (∀ j, j < l.length → (!(std.lt (dep l 0 (j + 1)) 0)) = true) → ∀ i, i ≤ l.length → 0 ≤ dep l 0 i := by
    intro h i hi
    cases i with
    | zero => exact Int.le_refl _
    | succ i =>
      have h1 := h i (by omega)
      rw [Bool.not_eq_true', std_lt] at h1
      have h2 := of_decide_eq_false h1
      omega
  have fe : ∀ i, 0 ≤ dep l 0 i → fkS l i = fkI l i := by
    intro i h
    unfold fkS fkI
    by_cases e : dep l 0 i = 0
    · rw [e]
      cases std.eq (kd l i) 11 <;> cases std.lt 1 (std.add .i64 (frk l i) 1) <;> rfl
    · have e1 : std.lt 0 (dep l 0 i) = true := by rw [std_lt]; exact decide_eq_true (by omega)
      have e2 : std.eq (dep l 0 i) 0 = false := beq_eq_false_iff_ne.2 e
      rw [e1, e2]
      cases std.eq (kd l i) 11 <;> cases std.lt 1 (std.add .i64 (frk l i) 1) <;> rfl
  constructor
  · rintro ⟨⟨h1, h2⟩, h3⟩
    refine ⟨fun i hi => ?_, h2⟩
    have h4 := h3 i hi
    rw [fe i (nn h1 i (by omega))]
    have h5 := h1 i hi
    unfold nnS
    rw [h5]
    rw [Bool.and_true]
    exact h4
  · rintro ⟨h1, h2⟩
    have h3 : ∀ i, i < l.length → (!(std.lt (dep l 0 (i + 1)) 0)) = true := fun i hi => by
      have := h1 i hi
      rw [Bool.and_eq_true, Bool.and_eq_true, Bool.and_eq_true] at this
      exact this.2.2.2
    refine ⟨⟨h3, h2⟩, fun i hi => ?_⟩
    have := h1 i hi
    rw [Bool.and_eq_true, Bool.and_eq_true, Bool.and_eq_true] at this
    rw [← fe i (nn h3 i (by omega)), Bool.and_eq_true, Bool.and_eq_true]
    exact ⟨this.1, this.2.1, this.2.2.1⟩
theorem CodeOk_im (l : List (List Int)) (hb : l.length ≤ 1048576) (k : Bool → R) : impl_CodeOk std l k = k (codeB l) := by
  rw [← codeI_eq]
  unfold impl_CodeOk impl_CodeOk_f codeI
  generalize hF : std.fuel = N
  have hN : 4294967296 = N := hF
  rw [isBal_val l hb]
  have lp : impl_CodeOk_l0 std (impl_OpOk std) (impl_isBalanced std) (impl_DepthAt std) N l 0 l (std.vlen l) 0 (fun t => k t) (fun _ => k true) = bif allB (fun i => opS l i && (skS l i && fkI l i)) l.length then k true else k false := by
    refine loop_all0 (F := fun n z => impl_CodeOk_l0 std (impl_OpOk std) (impl_isBalanced std) (impl_DepthAt std) n l (frk l z.toNat) l (std.vlen l) z (fun t => k t) (fun _ => k true)) (by omega) (fun n i hi => ?_) (fun n => ?_)
    · have r2 := frk_r l i
      have fs : frk l (i + 1) = frk l i + (bif std.eq (std.vget l (i : Int) 0) 11 then 1 else 0) := rfl
      have fa : std.add .i64 (frk l i) 1 = frk l i + 1 := addw (by omega) (by omega)
      simp only [impl_CodeOk_l0, std_vlen, lt_nat_t hi, inb_nat_t hi, bt, OpOk_val', Int.toNat_natCast, add1 (i := i) (by omega), opS]
      cases hop : opB (std.vget l (i : Int) 0) (std.vget l (i : Int) 1) (std.vget l (i : Int) 2) (std.vget l (i : Int) 3)
      · rfl
      · have nt : std.not true = false := rfl
        simp only [nt, bf, skS, fkI, kd, fs, Bool.true_and]
        rcases kcase (std.vget l (i : Int) 0) with h | h | h | h | ⟨h8, h9, h7, h11⟩
        · simp only [h, show std.eq 8 7 = false from rfl, show std.eq 8 11 = false from rfl, bt, bf, Bool.true_and, Int.add_zero]
        · simp only [h, show std.eq 9 7 = false from rfl, show std.eq 9 11 = false from rfl, bt, bf, Bool.true_and, Int.add_zero]
        · have hs := op7 (std.vget l (i : Int) 1) (std.vget l (i : Int) 2) (std.vget l (i : Int) 3) (by rw [h] at hop; exact hop)
          obtain ⟨m, hm⟩ : ∃ m : Nat, std.vget l (i : Int) 2 = (m : Int) := ⟨(std.vget l (i : Int) 2).toNat, (Int.toNat_of_nonneg (by omega)).symm⟩
          have ea : std.add .i64 ((i + 1 : Nat) : Int) (m : Int) = ((i + 1 + m : Nat) : Int) := by rw [addw (by omega) (by omega)]; omega
          simp only [h, show std.eq 7 7 = true from rfl, show std.eq 7 11 = false from rfl, bt, bf, std_vlen, Bool.true_and, Int.add_zero, Bool.and_true, hm, ea, Int.toNat_natCast, add1 (i := i) (by omega)]
          cases hlt : std.lt (l.length : Int) ((i + 1 + m : Nat) : Int)
          · have hle : i + 1 + m ≤ l.length := by
              rw [std_lt] at hlt
              have := of_decide_eq_false hlt
              omega
            have sb : std.subb ((i + 1 : Nat) : Int) ((i + 1 + m : Nat) : Int) (l.length : Int) = true := decide_eq_true (by omega)
            have vs : std.vsub l ((i + 1 : Nat) : Int) ((i + 1 + m : Nat) : Int) = (l.drop (i + 1)).take m := by
              show (l.drop ((i + 1 : Nat) : Int).toNat).take (((i + 1 + m : Nat) : Int).toNat - ((i + 1 : Nat) : Int).toNat) = _
              rw [Int.toNat_natCast, Int.toNat_natCast, Nat.add_sub_cancel_left]
            have iv := fun kk => isBal_val ((l.drop (i + 1)).take m) (by simp; omega) kk
            simp only [bf, bt, sb, vs, iv, bal_sub l (i + 1) m hle]
            cases balB l (i + 1) m <;> rfl
          · rfl
        · have dv := fun kk => DepthAt_val l hb i (by omega) kk
          simp only [h, show std.eq 11 7 = false from rfl, show std.eq 11 11 = true from rfl, bt, bf, fa, dv, Bool.true_and]
          cases std.lt 1 (frk l i + 1) <;> cases std.eq (dep l 0 i) 0 <;> rfl
        · simp only [h7, h11, bt, bf, Bool.true_and, Int.add_zero]
    · simp only [impl_CodeOk_l0, std_vlen, lt_nat_f (Nat.le_refl _), bf]
  rw [lp]
  cases std.lt 24 (std.vlen l) <;> cases balB l 0 l.length <;> cases allB (fun i => opS l i && (skS l i && fkI l i)) l.length <;> rfl
/-! ## HasFork, KidOk -/
def forkB (l : List (List Int)) : Bool := !allB (fun i => !(std.eq (std.vget l (i : Int) 0) 11)) l.length
theorem HasFork_sp (l : List (List Int)) (hb : l.length ≤ 1048576) (k : Bool → R) : spec_HasFork std l k = k (forkB l) := by
  unfold spec_HasFork spec_HasFork_f forkB
  generalize hF : std.fuel = N
  have hN : 4294967296 = N := hF
  exact loop_any (p := fun i => std.eq (std.vget l (i : Int) 0) 11) (k := k) (F := fun n i => spec_HasFork_l0 std n l i (fun t => k t) (fun _ => k false)) (len := l.length) (N := N) (by omega)
    (fun n i hi => by
      have e : std.le 0 (i : Int) = true := by rw [std_le]; exact decide_eq_true (by omega)
      simp only [spec_HasFork_l0, std_vlen, lt_nat_t hi, inb_nat_t hi, bt, e, add1 (i := i) (by omega)])
    (fun n => by simp only [spec_HasFork_l0, std_vlen, lt_nat_f (Nat.le_refl _), bf, show std.le 0 (-1) = false from rfl])
noncomputable def tcB (l : List (List Int)) (i : Nat) : Bool := !(std.eq (touch (std.vget l (i : Int) 0) (std.vget l (i : Int) 1) (std.vget l (i : Int) 2) (std.vget l (i : Int) 3)) 2)
noncomputable def kidB (l : List (List Int)) : Bool := codeB l && (!(forkB l) && allB (tcB l) l.length)
theorem KidOk_sp (l : List (List Int)) (hb : l.length ≤ 1048576) (k : Bool → R) : spec_KidOk std l k = k (kidB l) := by
  unfold spec_KidOk spec_KidOk_f kidB
  generalize hF : std.fuel = N
  have hN : 4294967296 = N := hF
  rw [CodeOk_sp l hb]
  have lp : spec_KidOk_l0 std (spec_CodeOk std) (spec_HasFork std) (spec_Touches std) N l 0 (fun t => k t) (fun _ => k true) = bif allB (tcB l) l.length then k true else k false := by
    refine loop_all0 (F := fun n z => spec_KidOk_l0 std (spec_CodeOk std) (spec_HasFork std) (spec_Touches std) n l z (fun t => k t) (fun _ => k true)) (by omega) (fun n i hi => ?_) (fun n => ?_)
    · simp only [spec_KidOk_l0, std_vlen, lt_nat_t hi, inb_nat_t hi, bt, Touches_val, tcB, add1 (i := i) (by omega)]
      cases std.eq (touch (std.vget l (i : Int) 0) (std.vget l (i : Int) 1) (std.vget l (i : Int) 2) (std.vget l (i : Int) 3)) 2 <;> rfl
    · simp only [spec_KidOk_l0, std_vlen, lt_nat_f (Nat.le_refl _), bf]
  rw [HasFork_sp l hb, lp]
  cases codeB l <;> cases forkB l <;> cases allB (tcB l) l.length <;> rfl
theorem KidOk_im (l : List (List Int)) (hb : l.length ≤ 1048576) (k : Bool → R) : impl_KidOk std l k = k (kidB l) := by
  unfold impl_KidOk impl_KidOk_f
  generalize hF : std.fuel = N
  have hN : 4294967296 = N := hF
  have lp : impl_KidOk_l0 std (impl_Touches std) (impl_CodeOk std) N l l (std.vlen l) 0 (fun t => k t) (fun code => impl_CodeOk std code (fun r => k r)) = bif allB (fun i => !(std.eq (std.vget l (i : Int) 0) 11) && tcB l i) l.length then k (codeB l) else k false := by
    refine loop_all0 (F := fun n z => impl_KidOk_l0 std (impl_Touches std) (impl_CodeOk std) n l l (std.vlen l) z (fun t => k t) (fun code => impl_CodeOk std code (fun r => k r))) (by omega) (fun n i hi => ?_) (fun n => ?_)
    · simp only [impl_KidOk_l0, std_vlen, lt_nat_t hi, inb_nat_t hi, bt, Touches_val', tcB, add1 (i := i) (by omega)]
      cases std.eq (std.vget l (i : Int) 0) 11 <;> cases std.eq (touch (std.vget l (i : Int) 0) (std.vget l (i : Int) 1) (std.vget l (i : Int) 2) (std.vget l (i : Int) 3)) 2 <;> rfl
    · simp only [impl_KidOk_l0, std_vlen, lt_nat_f (Nat.le_refl _), bf, CodeOk_im l hb]
  rw [lp]
  have e : allB (fun i => !(std.eq (std.vget l (i : Int) 0) 11) && tcB l i) l.length = (!(forkB l) && allB (tcB l) l.length) := by
    unfold forkB
    rw [Bool.not_not, Bool.eq_iff_iff, Bool.and_eq_true, allB_iff, allB_iff, allB_iff]
    constructor
    · intro h
      exact ⟨fun i hi => by have := h i hi; rw [Bool.and_eq_true] at this; exact this.1, fun i hi => by have := h i hi; rw [Bool.and_eq_true] at this; exact this.2⟩
    · rintro ⟨h1, h2⟩ i hi
      rw [Bool.and_eq_true]; exact ⟨h1 i hi, h2 i hi⟩
  rw [e]
  unfold kidB
  cases codeB l <;> cases forkB l <;> cases allB (tcB l) l.length <;> rfl
end X
