/- Models of the functions, or plain laws about them; each theorem states its own conditions. -/
import Derived.Test.YtnkgcegeinemjaaQHC
set_option linter.unusedVariables false
set_option linter.unusedSimpArgs false
open Go.Proofs
namespace X
open PM Go

theorem FnHolds_l0 (c1 : spec_HoldsOk_T) (c2 : impl_HoldFree_T) (c3 : spec_HoldAsk_T) (c4 : impl_Blocks_T) (c5 : impl_HoldAsk_T) (c6 : laws_big_T) (c7 : spec_DrawHoldAsk_T) (c8 : laws_sameHolds_T) (c9 : impl_HoldOf_T) (c10 : impl_HoldsBy_T) (c11 : laws_has_T)
    (l : List (List Int)) (who what mode : Int) (x y : List (List Int)) (hy : y.length ≤ 1048576) (hn : ∀ r ∈ y, r.getD 0 0 ≠ who) (kret : Bool → R) (kx : List (List Int) → Int → Int → Int → List (List Int) → List (List Int) → R) (N : Nat) (hN : y.length < N) :
    laws_FnHolds_l0 std c1 c2 c3 c4 c5 c6 c7 c8 c9 c10 c11 N l who what mode x y 0 kret kx = kx l who what mode x y := by
  have h := loop_all0 (p := fun _ => true) (len := y.length) (F := fun n i => laws_FnHolds_l0 std c1 c2 c3 c4 c5 c6 c7 c8 c9 c10 c11 n l who what mode x y i kret kx) (yes := kx l who what mode x y) (no := none) (N := N) hN (fun n i hi => ?_) (fun n => ?_)
  · rw [h, show allB (fun _ => true) y.length = true from allB_iff.2 fun _ _ => rfl]; exact bt _ _
  · have e : std.eq (fld y i 0) who = false := by
      rw [std_eq]
      exact beq_eq_false_iff_ne.2 (hn _ (getD_mem (d := []) hi))
    simp only [laws_FnHolds_l0, std_vlen, lt_nat_t hi, inb_nat_t hi, bt, bf, vget_nat, e, add1 (i := i) (by omega)]
  · simp only [laws_FnHolds_l0, std_vlen, lt_nat_f (Nat.le_refl _), bf]
theorem FnHolds_l4 (c1 : spec_HoldsOk_T) (c2 : impl_HoldFree_T) (c3 : spec_HoldAsk_T) (c4 : impl_Blocks_T) (c5 : impl_HoldAsk_T) (c6 : laws_big_T) (c7 : spec_DrawHoldAsk_T) (c8 : laws_sameHolds_T) (c9 : impl_HoldOf_T) (c10 : impl_HoldsBy_T) (c11 : laws_has_T)
    (l : List (List Int)) (who what mode : Int) (x y : List (List Int)) (hx : x.length ≤ 1048576) (hh : holdsOk x = true) (i : Nat) (hi : i < x.length) (kret : Bool → R) (kx : List (List Int) → Int → Int → Int → List (List Int) → List (List Int) → Int → R) (N : Nat) (hN : i < N) :
    laws_FnHolds_l4 std c1 c2 c3 c4 c5 c6 c7 c8 c9 c10 c11 N l who what mode x y (i : Int) 0 kret kx = kx l who what mode x y (i : Int) := by
  have h := loop_all0 (p := fun _ => true) (len := i) (F := fun n k => laws_FnHolds_l4 std c1 c2 c3 c4 c5 c6 c7 c8 c9 c10 c11 n l who what mode x y (i : Int) k kret kx) (yes := kx l who what mode x y (i : Int)) (no := none) (N := N) hN (fun n k hk => ?_) (fun n => ?_)
  · rw [h, show allB (fun _ => true) i = true from allB_iff.2 fun _ _ => rfl]; exact bt _ _
  · have hk2 : k < x.length := by omega
    by_cases e : fld x i 1 = fld x k 1
    · obtain ⟨s1, s2⟩ := same_adj hh hk hi e.symm
      have e0 : std.eq (fld x i 1) (fld x k 1) = true := by rw [std_eq, e]; exact beq_self_eq_true _
      have e1 : std.eq (fld x i 2) 2 = false := by rw [std_eq]; exact beq_eq_false_iff_ne.2 s2
      have e2 : std.eq (fld x k 2) 2 = false := by rw [std_eq]; exact beq_eq_false_iff_ne.2 s1
      simp only [laws_FnHolds_l4, std_vlen, lt_nat_t hk, inb_nat_t hi, inb_nat_t hk2, bt, bf, vget_nat, e0, e1, e2, add1 (i := k) (by omega)]
    · have e0 : std.eq (fld x i 1) (fld x k 1) = false := by rw [std_eq]; exact beq_eq_false_iff_ne.2 e
      simp only [laws_FnHolds_l4, std_vlen, lt_nat_t hk, inb_nat_t hi, inb_nat_t hk2, bt, bf, vget_nat, e0, add1 (i := k) (by omega)]
  · simp only [laws_FnHolds_l4, lt_nat_f (Nat.le_refl _), bf]
theorem FnHolds_l2 (c1 : spec_HoldsOk_T) (c2 : impl_HoldFree_T) (c3 : spec_HoldAsk_T) (c4 : impl_Blocks_T) (c5 : impl_HoldAsk_T) (c6 : laws_big_T) (c7 : spec_DrawHoldAsk_T) (c8 : laws_sameHolds_T) (c9 : impl_HoldOf_T) (c10 : impl_HoldsBy_T) (c11 : laws_has_T)
    (l : List (List Int)) (who what mode : Int) (x y : List (List Int)) (hx : x.length ≤ 1048576) (hh : holdsOk x = true) (kret : Bool → R) (kx : List (List Int) → Int → Int → Int → List (List Int) → List (List Int) → R) (N M : Nat) (hN : x.length < N) (hM : x.length < M) (hF : std.fuel = M) :
    laws_FnHolds_l2 std c1 c2 c3 c4 c5 c6 c7 c8 c9 c10 c11 N l who what mode x y 0 kret kx = kx l who what mode x y := by
  have h := loop_all0 (p := fun _ => true) (len := x.length) (F := fun n i => laws_FnHolds_l2 std c1 c2 c3 c4 c5 c6 c7 c8 c9 c10 c11 n l who what mode x y i kret kx) (yes := kx l who what mode x y) (no := none) (N := N) hN (fun n i hi => ?_) (fun n => ?_)
  · rw [h, show allB (fun _ => true) x.length = true from allB_iff.2 fun _ _ => rfl]; exact bt _ _
  · simp only [laws_FnHolds_l2, std_vlen, lt_nat_t hi, bt, hF]
    rw [FnHolds_l4 c1 c2 c3 c4 c5 c6 c7 c8 c9 c10 c11 l who what mode x y hx hh i hi _ _ M (by omega), add1 (i := i) (by omega)]
  · simp only [laws_FnHolds_l2, std_vlen, lt_nat_f (Nat.le_refl _), bf]
theorem FnHolds_true (code : List Int) (f : FitArr cx (.ints 5 .u8 code)) (k : Bool → R) : laws_FnHolds std code k = k true := by
  unfold laws_FnHolds laws_FnHolds_f
  have bigv : ∀ k : Bool → R, laws_big std code k = k (std.lt 1048576 (std.ilen code)) := fun k => rfl
  simp only [bigv]
  by_cases hb : 1048576 < code.length
  · have e : std.lt 1048576 (std.ilen code) = true := by rw [std_lt, std_ilen]; exact decide_eq_true (by omega)
    simp only [e, bt]
  · have e : std.lt 1048576 (std.ilen code) = false := by rw [std_lt, std_ilen]; exact decide_eq_false (by omega)
    obtain ⟨l, who, what, mode, hl, hw, hd⟩ := DrawHoldAsk_dr code (by omega)
    have bbt : ∀ x : Bool, std.not (std.beq x x) = false := fun x => by cases x <;> rfl
    have hl1 : l.length ≤ 1048576 := by omega
    simp only [e, bf, hd, (HoldAsk_val l hl1 hw who what mode _).1, (HoldAsk_val l hl1 hw who what mode _).2, bbt]
    have ha : holdAsk l who what mode = bif askOk l who what mode then (askRows l who what mode, true) else (l, false) := rfl
    cases hq : askOk l who what mode
    · rw [hq] at ha
      rw [ha]
      simp only [bf, not_false', bt, sameHolds_refl l (by omega), not_true', HoldsOk_val l (show l.length ≤ 2147483648 by omega), (Blocks_val l hl1 who what mode _).2, bif_not, blocks_zero]
      unfold askOk at hq
      rw [holdOk_dec] at hq
      cases ho : holdsOk l
      · rfl
      · rw [ho, Bool.true_and] at hq
        simp only [bt, std_lt, std_le]
        by_cases c1 : who < 1
        · simp only [decide_eq_true c1, bt]
        by_cases c2 : 9 < who
        · simp only [decide_eq_false c1, decide_eq_true c2, bt, bf]
        by_cases c3 : what < 0
        · simp only [decide_eq_false c1, decide_eq_false c2, decide_eq_true c3, bt, bf]
        by_cases c4 : 9 ≤ what
        · simp only [decide_eq_false c1, decide_eq_false c2, decide_eq_false c3, decide_eq_true c4, bt, bf]
        by_cases c5 : mode < 1
        · simp only [decide_eq_false c1, decide_eq_false c2, decide_eq_false c3, decide_eq_false c4, decide_eq_true c5, bt, bf]
        by_cases c6 : 2 < mode
        · simp only [decide_eq_false c1, decide_eq_false c2, decide_eq_false c3, decide_eq_false c4, decide_eq_false c5, decide_eq_true c6, bt, bf]
        rw [decide_eq_true (show 1 ≤ who ∧ who ≤ 9 by omega), decide_eq_true (show 0 ≤ what ∧ what ≤ 8 by omega), decide_eq_true (show 1 ≤ mode ∧ mode ≤ 2 by omega), Bool.true_and, Bool.true_and, Bool.true_and] at hq
        simp only [decide_eq_false c1, decide_eq_false c2, decide_eq_false c3, decide_eq_false c4, decide_eq_false c5, decide_eq_false c6, bf, hq, Bool.not_false]
    · rw [hq] at ha
      have hr : holdAsk l who what mode = (askRows l who what mode, true) := by rw [ha]; exact bt _ _
      have hlen := holdAsk_length l who what mode
      have hwd := holdAsk_wide hw who what mode
      obtain ⟨hx, m, hm, hmem⟩ := ask_holds hw hq
      rw [hr] at hlen hwd ⊢
      simp only at hlen hwd ⊢
      generalize askRows l who what mode = x at hx hmem hlen hwd
      have hx1 : x.length ≤ 1048576 := by omega
      have hx2 : x.length ≤ 2147483648 := by omega
      have hyl := holdFree_length x who
      have hy := free_holds hx who
      have hyw := free_who hx who
      have hb0 : (blocks l who what mode).length = 0 := by
        unfold askOk at hq
        rw [Bool.and_eq_true, Bool.and_eq_true] at hq
        exact eq_of_beq hq.2.2
      simp only [not_true', bf, (HoldFree_val x hx1 hwd who _).2]
      generalize holdFree x who = y at hyl hy hyw
      generalize hN : std.fuel = N
      have hN' : 4294967296 = N := hN
      have eB : std.eq (std.ilen (blocks l who what mode)) 0 = true := by rw [std_ilen, hb0]; rfl
      have hby : (holdsBy y who) = [] := by
        cases e : holdsBy y who with
        | nil => rfl
        | cons a t =>
          have hmem : a ∈ holdsBy y who := by rw [e]; simp
          have hi := (holdsBy_inv hy who).2.2 a
          have e2 : holdsBy y who = foldB (byF y who) y.length [] := by unfold holdsBy; rw [hy, cond_true]
          rw [e2] at hmem
          obtain ⟨j, j1, j2, _⟩ := hi.1 hmem
          exact absurd j2 (hyw _ (getD_mem (d := []) j1))
      have hbx : what ∈ holdsBy x who := by
        have e2 : holdsBy x who = foldB (byF x who) x.length [] := by unfold holdsBy; rw [hx, cond_true]
        rw [e2, (holdsBy_inv hx who).2.2 what]
        obtain ⟨j, hj, he⟩ := List.getElem_of_mem hmem
        refine ⟨j, hj, ?_, ?_⟩
        · unfold fld; rw [getD_eq hj, he]; rfl
        · unfold fld; rw [getD_eq hj, he]; rfl
      have eM : std.le mode (holdOf x who what) = true := by rw [holdOf_mem hx hmem, std_le]; exact decide_eq_true hm
      rw [FnHolds_l0 _ _ _ _ _ _ _ _ _ _ _ l who what mode x y (by omega) hyw _ _ N (by omega), FnHolds_l2 _ _ _ _ _ _ _ _ _ _ _ l who what mode x y hx1 hx _ _ N N (by omega) (by omega) hN]
      have hxb : (holdsBy x who).length ≤ 2147483648 := Nat.le_trans (holdsBy_length _ _) hx2
      simp only [HoldsOk_val x hx2, hx, bt, HoldsOk_val y (show y.length ≤ 2147483648 by omega), hy, (HoldOf_val x hx2 who what _).2, eM, (HoldsBy_val x hx1 who _).2, has_true _ hxb what hbx, (Blocks_val l hl1 who what mode _).2, eB, (HoldsBy_val y (show y.length ≤ 1048576 by omega) who _).2, hby]
      rfl
end X
