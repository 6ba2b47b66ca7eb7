/- Models of the functions, or plain laws about them; each theorem states its own conditions. -/
import Derived.Test.YtnkgcegeinemjaaQ6
set_option linter.unusedVariables false
set_option linter.unusedSimpArgs false
open Go.Proofs
namespace X
open PM Go

/-! ## HoldsBy -/
theorem holdsGo_iff {l : List (List Int)} : ∀ {m i : Nat}, holdsGo l m i = true ↔ ∀ j, i ≤ j → j < i + m → goodAt l j = true
  | 0, i => by simp only [holdsGo, true_iff]; intro j h1 h2; omega
  | m + 1, i => by
    rw [show holdsGo l (m + 1) i = bif goodAt l i then holdsGo l m (i + 1) else false from rfl]
    cases hp : goodAt l i
    · simp only [cond_false, Bool.false_eq_true, false_iff]
      intro h
      have := h i (Nat.le_refl _) (by omega)
      rw [hp] at this; cases this
    · rw [cond_true, holdsGo_iff]
      constructor
      · intro h j h1 h2
        by_cases e : i = j
        · subst e; exact hp
        · exact h j (by omega) (by omega)
      · intro h j h1 h2
        exact h j (by omega) (by omega)
theorem holdsOk_good {l : List (List Int)} (h : holdsOk l = true) {i : Nat} (hi : i < l.length) : goodAt l i = true := holdsGo_iff.1 h i (Nat.zero_le _) (by omega)
theorem good_hold {l : List (List Int)} {i : Nat} (h : goodAt l i = true) : holdOk (fld l i 0) (fld l i 1) (fld l i 2) = true := by
  unfold goodAt at h
  cases hh : holdOk (fld l i 0) (fld l i 1) (fld l i 2)
  · rw [hh] at h; cases h
  · rfl
def lexlt (l : List (List Int)) (i j : Nat) : Prop := fld l i 1 < fld l j 1 ∨ (fld l i 1 = fld l j 1 ∧ fld l i 0 < fld l j 0)
theorem pair_spec {p0 p1 p2 q0 q1 q2 : Int} (h : pairOk p0 p1 p2 q0 q1 q2 = true) : p1 < q1 ∨ (p1 = q1 ∧ p0 < q0 ∧ q2 ≠ 2 ∧ p2 ≠ 2) := by
  unfold pairOk at h
  by_cases h1 : q1 < p1
  · simp [h1] at h
  · by_cases h2 : p1 = q1
    · subst h2
      by_cases h3 : q0 ≤ p0
      · simp [h3] at h
      · by_cases h4 : q2 = 2
        · simp [h3, h4] at h
        · by_cases h5 : p2 = 2
          · simp [h3, h5] at h
          · exact .inr ⟨rfl, by omega, h4, h5⟩
    · exact .inl (by omega)
theorem good_pair {l : List (List Int)} {i : Nat} (h : goodAt l (i + 1) = true) : pairOk (fld l i 0) (fld l i 1) (fld l i 2) (fld l (i + 1) 0) (fld l (i + 1) 1) (fld l (i + 1) 2) = true := by
  unfold goodAt at h
  rw [good_hold h] at h
  simpa using h
theorem holds_lex {l : List (List Int)} (h : holdsOk l = true) : ∀ {i j : Nat}, i < j → j < l.length → lexlt l i j
  | i, 0, hi, _ => by omega
  | i, j + 1, hi, hj => by
    have h1 : lexlt l j (j + 1) := by
      rcases pair_spec (good_pair (holdsOk_good h hj)) with e | ⟨e, e2, _⟩
      · exact .inl e
      · exact .inr ⟨e, e2⟩
    by_cases e : i = j
    · subst e; exact h1
    · have h2 := holds_lex h (i := i) (j := j) (by omega) (by omega)
      unfold lexlt at *
      omega
def byF (l : List (List Int)) (who : Int) (i : Nat) (o : List Int) : List Int := bif fld l i 0 == who then o ++ [fld l i 1] else o
def holdsBy (l : List (List Int)) (who : Int) : List Int := bif holdsOk l then foldB (byF l who) l.length [] else []
def byI (l : List (List Int)) (who : Int) (i : Nat) (o : List Int) : Prop := o.length ≤ i ∧ o.Pairwise (· < ·) ∧ ∀ x, x ∈ o ↔ ∃ j, j < i ∧ fld l j 0 = who ∧ fld l j 1 = x
theorem byF_inv {l : List (List Int)} (h : holdsOk l = true) (who : Int) (i : Nat) (o : List Int) (hi : i < l.length) (hv : byI l who i o) : byI l who (i + 1) (byF l who i o) := by
  obtain ⟨h1, h2, h3⟩ := hv
  unfold byF
  by_cases e : fld l i 0 = who
  · rw [show (fld l i 0 == who) = true by simpa using e, cond_true]
    refine ⟨by rw [List.length_append, List.length_singleton]; omega, pairwise_snoc h2 fun y hy => ?_, fun x => ?_⟩
    · obtain ⟨j, j1, j2, j3⟩ := (h3 y).1 hy
      rcases holds_lex h j1 hi with q | ⟨q, q2⟩
      · omega
      · omega
    · rw [List.mem_append, List.mem_singleton, h3]
      constructor
      · rintro (⟨j, j1, j2, j3⟩ | rfl)
        · exact ⟨j, by omega, j2, j3⟩
        · exact ⟨i, by omega, e, rfl⟩
      · rintro ⟨j, j1, j2, j3⟩
        by_cases ej : j = i
        · subst ej; exact .inr j3.symm
        · exact .inl ⟨j, by omega, j2, j3⟩
  · rw [show (fld l i 0 == who) = false from beq_eq_false_iff_ne.2 e, cond_false]
    refine ⟨by omega, h2, fun x => ?_⟩
    rw [h3]
    constructor
    · rintro ⟨j, j1, j2, j3⟩
      exact ⟨j, by omega, j2, j3⟩
    · rintro ⟨j, j1, j2, j3⟩
      by_cases ej : j = i
      · subst ej; exact (e j2).elim
      · exact ⟨j, by omega, j2, j3⟩
theorem by_nil (l : List (List Int)) (who : Int) : byI l who 0 [] := ⟨Nat.le_refl _, List.Pairwise.nil, fun x => by
  constructor
  · intro h; cases h
  · rintro ⟨j, j1, _⟩; omega⟩
theorem holdsBy_inv {l : List (List Int)} (h : holdsOk l = true) (who : Int) : byI l who l.length (foldB (byF l who) l.length []) :=
  foldB_inv (f := byF l who) (byI l who) (by_nil l who) fun i o hi hv => byF_inv h who i o hi hv
theorem By_l2 (cc : impl_HoldsOk_T) {l : List (List Int)} (h : holdsOk l = true) (hb : l.length ≤ 1048576) (who : Int) (kx : List Int → R) (N : Nat) (hN : l.length < N) :
    impl_HoldsBy_l0 std cc N who l l.length 0 [] kx = kx (foldB (byF l who) l.length []) := by
  refine loop_fold0 (F := fun n i o => impl_HoldsBy_l0 std cc n who l l.length i o kx) (f := byF l who) (len := l.length) (byI l who) hN (by_nil l who) (fun n i o hi hv => ?_) (fun i o hi hv => byF_inv h who i o hi hv) (fun n o hv => ?_)
  · have h1 := hv.1
    simp only [impl_HoldsBy_l0, std_vlen, std_ilen, lt_nat_t hi, inb_nat_t hi, cond_true, vget_nat, std_eq, add1 (i := i) (by omega), std_iapp, byF]
    have er : std.room (o.length : Int) ([fld l i 1].length : Int) = true := by rw [std_room]; exact decide_eq_true (by simp; omega)
    rw [er]
    cases (fld l i 0 == who) <;> rfl
  · simp only [impl_HoldsBy_l0, lt_nat_f (Nat.le_refl _), cond_false]
/-- The mode of a hold is positive where there is one. -/
theorem modeGo_pos {l : List (List Int)} (h : holdsOk l = true) (who what : Int) : ∀ (m i : Nat), i + m = l.length → (0 < modeGo l who what m i ↔ ∃ j, i ≤ j ∧ j < l.length ∧ fld l j 0 = who ∧ fld l j 1 = what)
  | 0, i, hi => by
    constructor
    · intro h; exact absurd h (by show ¬ (0 : Int) < 0; omega)
    · rintro ⟨j, h1, h2, _⟩; omega
  | m + 1, i, hi => by
    have ih := modeGo_pos h who what m (i + 1) (by omega)
    have skip : ¬ (fld l i 0 = who ∧ fld l i 1 = what) → ((∃ j, i + 1 ≤ j ∧ j < l.length ∧ fld l j 0 = who ∧ fld l j 1 = what) ↔ ∃ j, i ≤ j ∧ j < l.length ∧ fld l j 0 = who ∧ fld l j 1 = what) := by
      intro hn
      constructor
      · rintro ⟨j, h1, h2, h3⟩; exact ⟨j, by omega, h2, h3⟩
      · rintro ⟨j, h1, h2, h3⟩
        by_cases e : i = j
        · subst e; exact (hn h3).elim
        · exact ⟨j, by omega, h2, h3⟩
    rw [show modeGo l who what (m + 1) i = bif fld l i 0 == who then (bif fld l i 1 == what then fld l i 2 else modeGo l who what m (i + 1)) else modeGo l who what m (i + 1) from rfl]
    by_cases e1 : fld l i 0 = who
    · rw [show (fld l i 0 == who) = true by simpa using e1, cond_true]
      by_cases e2 : fld l i 1 = what
      · rw [show (fld l i 1 == what) = true by simpa using e2, cond_true]
        have := (holdOk_spec (good_hold (holdsOk_good h (show i < l.length by omega)))).2.2
        exact ⟨fun _ => ⟨i, Nat.le_refl _, by omega, e1, e2⟩, fun _ => by omega⟩
      · rw [show (fld l i 1 == what) = false from beq_eq_false_iff_ne.2 e2, cond_false, ih]
        exact skip fun q => e2 q.2
    · rw [show (fld l i 0 == who) = false from beq_eq_false_iff_ne.2 e1, cond_false, ih]
      exact skip fun q => e1 q.1
def whF (l : List (List Int)) (who : Int) (w : Nat) (o : List Int) : List Int := bif decide (0 < holdOf l who (w : Int)) then o ++ [(w : Int)] else o
theorem By_l1 (l : List (List Int)) (hb : l.length ≤ 1048576) (who : Int) (kx : List Int → R) (N : Nat) (hN : 9 < N) : spec_HoldsBy_l0 std (spec_HoldOf std) N l who 0 [] kx = kx (foldB (whF l who) 9 []) := by
  have step : ∀ (i : Nat) (o : List Int), o.length ≤ i → (whF l who i o).length ≤ i + 1 := by
    intro i o h
    unfold whF
    cases decide (0 < holdOf l who (i : Int))
    · exact Nat.le_succ_of_le h
    · rw [cond_true, List.length_append, List.length_singleton]; omega
  refine loop_fold0 (F := fun n i o => spec_HoldsBy_l0 std (spec_HoldOf std) n l who i o kx) (f := whF l who) (len := 9) (fun i o => o.length ≤ i) hN (Nat.le_refl _) (fun n i o hi hv => ?_) (fun i o hi hv => step i o hv) (fun n o hv => ?_)
  · have e1 : std.lt (i : Int) 9 = true := lt_nat_t (n := 9) hi
    have er : std.room (o.length : Int) ([(i : Int)].length : Int) = true := by rw [std_room]; exact decide_eq_true (by simp; omega)
    simp only [spec_HoldsBy_l0, e1, cond_true, (HoldOf_val l (by omega) who (i : Int) _).1, std_ilen, er, std_lt, add1 (i := i) (by omega), std_iapp, whF]
    cases decide (0 < holdOf l who (i : Int)) <;> rfl
  · have e1 : std.lt ((9 : Nat) : Int) 9 = false := lt_nat_f (n := 9) (Nat.le_refl _)
    simp only [spec_HoldsBy_l0, e1, cond_false]
theorem whF_eq (l : List (List Int)) (who : Int) : foldB (whF l who) 9 [] = holdsBy l who := by
  unfold holdsBy
  cases h : holdsOk l
  · refine foldB_inv (f := whF l who) (len := 9) (s := []) (fun _ o => o = []) rfl fun i o _ ho => ?_
    have e : holdOf l who (i : Int) = 0 := by unfold holdOf; rw [h]; rfl
    unfold whF
    rw [e]; exact ho
  · obtain ⟨_, p2, p3⟩ := holdsBy_inv h who
    have q := foldB_inv (f := whF l who) (len := 9) (s := []) (fun i o => o.Pairwise (· < ·) ∧ ∀ x, x ∈ o ↔ ∃ w : Nat, w < i ∧ x = (w : Int) ∧ 0 < holdOf l who (w : Int))
      ⟨List.Pairwise.nil, fun x => ⟨fun h => (List.not_mem_nil h).elim, fun ⟨w, h, _⟩ => (Nat.not_lt_zero w h).elim⟩⟩ fun i o _ hv => ?_
    · rw [cond_true]
      refine sorted_ext q.1 p2 fun x => ?_
      rw [q.2, p3]
      have hp := fun w : Int => modeGo_pos h who w l.length 0 (by omega)
      have hh : ∀ w : Int, holdOf l who w = modeGo l who w l.length 0 := fun w => by unfold holdOf; rw [h]; rfl
      constructor
      · rintro ⟨w, h1, rfl, h3⟩
        rw [hh, hp] at h3
        obtain ⟨j, _, j1, j2, j3⟩ := h3
        exact ⟨j, j1, j2, j3⟩
      · rintro ⟨j, j1, j2, rfl⟩
        have hb := (holdOk_spec (good_hold (holdsOk_good h j1))).2.1
        refine ⟨(fld l j 1).toNat, by omega, by omega, ?_⟩
        rw [show (((fld l j 1).toNat : Nat) : Int) = fld l j 1 by omega, hh, hp]
        exact ⟨j, Nat.zero_le _, j1, j2, rfl⟩
    · obtain ⟨v1, v2⟩ := hv
      unfold whF
      by_cases e : 0 < holdOf l who (i : Int)
      · rw [decide_eq_true e, cond_true]
        refine ⟨pairwise_snoc v1 fun y hy => ?_, fun x => ?_⟩
        · obtain ⟨w, w1, w2, _⟩ := (v2 y).1 hy
          omega
        · rw [List.mem_append, List.mem_singleton, v2]
          constructor
          · rintro (⟨w, w1, w2, w3⟩ | rfl)
            · exact ⟨w, by omega, w2, w3⟩
            · exact ⟨i, by omega, rfl, e⟩
          · rintro ⟨w, w1, w2, w3⟩
            by_cases ew : w = i
            · subst ew; exact .inr w2
            · exact .inl ⟨w, by omega, w2, w3⟩
      · rw [decide_eq_false e, cond_false]
        refine ⟨v1, fun x => ?_⟩
        rw [v2]
        constructor
        · rintro ⟨w, w1, w2, w3⟩
          exact ⟨w, by omega, w2, w3⟩
        · rintro ⟨w, w1, w2, w3⟩
          by_cases ew : w = i
          · subst ew; exact (e w3).elim
          · exact ⟨w, by omega, w2, w3⟩
theorem HoldsBy_val (l : List (List Int)) (hb : l.length ≤ 1048576) (who : Int) (k : List Int → R) : spec_HoldsBy std l who k = k (holdsBy l who) ∧ impl_HoldsBy std l who k = k (holdsBy l who) := by
  rw [← whF_eq]
  unfold spec_HoldsBy spec_HoldsBy_f impl_HoldsBy impl_HoldsBy_f
  generalize hN : std.fuel = N
  have hN : 4294967296 = N := hN
  simp only [By_l1 l hb who _ N (by omega), HoldsOk_eq l (by omega), bif_not, std_vlen, true_and]
  rw [whF_eq]
  unfold holdsBy
  cases h : holdsOk l
  · rfl
  · simp only [cond_true, By_l2 _ h hb who _ N (by omega)]
theorem holdsBy_length (l : List (List Int)) (who : Int) : (holdsBy l who).length ≤ l.length := by
  unfold holdsBy
  cases h : holdsOk l
  · exact Nat.zero_le _
  · exact (holdsBy_inv h who).1
theorem HoldsBy_true (l : List (List Int)) (who : Int) (b : FitArr cx (.vecs 73 3 l)) (b1 : IntKind.i64.min ≤ who ∧ who ≤ IntKind.i64.max) (k : Bool → R) : laws_FnExactHoldsBy std l who k = k true := by
  unfold laws_FnExactHoldsBy laws_FnExactHoldsBy_f
  rw [szHoldS_eq l 1048576 (by omega) (by omega) b.1]
  by_cases hl : (1048576 : Int) - l.length < 0
  · simp [hl]
  · have h : l.length ≤ 2147483648 := by omega
    have h20 : l.length ≤ 1048576 := by omega
    have hw : ∀ r ∈ l, r.length = 3 := fun r hr => (b.2 r hr).1
    have hr : (holdsBy l who).length ≤ 2147483648 := Nat.le_trans (holdsBy_length _ _) h
    have e0 : std.lt (1048576 - (l.length : Int)) 0 = false := by rw [std_lt]; exact decide_eq_false hl
    simp only [hl, if_false, e0, cond_false, toHoldS_eq l h hw, (HoldsBy_val l h20 _ _).1, (HoldsBy_val l h20 _ _).2, eqHoldS1 l h, eqInt1 _ hr, markHold1 l h hw, pos3, mark1 _ hr, held1 _ hr, pos1, eq_self, not_true']
end X
