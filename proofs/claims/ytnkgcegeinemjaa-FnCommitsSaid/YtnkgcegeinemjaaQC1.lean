/- Models of the functions, or plain laws about them; each theorem states its own conditions. -/
import Derived.Test.YtnkgcegeinemjaaQB2
import Derived.Test.YtnkgcegeinemjaaQG
set_option linter.unusedVariables false
set_option linter.unusedSimpArgs false
open Go.Proofs
namespace X
open PM Go

/-! ## Commits that run: what they hold -/
theorem fld_vset {l : List (List Int)} {n : Nat} (hg : GoodM n l) {i : Int} (h0 : 0 ≤ i) (h1 : i < n) {k : Nat} (hk : k < 3) (x : Int) (j k' : Nat) : fld (std.vset l i k x) j k' = if j = i.toNat ∧ k' = k then x else fld l j k' := by
  have hi : i.toNat < l.length := by have := hg.1; omega
  have hw : (l.getD i.toNat []).length = 3 := hg.2 _ (getD_mem hi)
  rw [std_vset]
  unfold fld
  by_cases hj : j = i.toNat
  · subst hj
    rw [getD_set_self hi]
    by_cases hk' : k' = k
    · subst hk'
      rw [if_pos ⟨rfl, rfl⟩, List.getD_eq_getElem?_getD, List.getElem?_set_self (by omega)]; rfl
    · rw [if_neg (fun h => hk' h.2), List.getD_eq_getElem?_getD, List.getElem?_set_ne (Ne.symm hk'), ← List.getD_eq_getElem?_getD]
  · rw [if_neg (fun h => hj h.1)]
    have : (l.set i.toNat ((l.getD i.toNat []).set k x)).getD j [] = l.getD j [] := by
      rw [List.getD_eq_getElem?_getD, List.getElem?_set_ne (Ne.symm hj), ← List.getD_eq_getElem?_getD]
    rw [this]
theorem vset_good {l : List (List Int)} {n : Nat} (hg : GoodM n l) (i : Int) (k : Nat) (x : Int) : GoodM n (std.vset l i k x) := ⟨by rw [vset_length]; exact hg.1, vset_wide hg.2 i k x⟩
def locked (P : List (List Int)) (t j : Nat) : Prop := ∃ i, i < t ∧ fld P i 0 = (j : Int)
structure Lk (l P : List (List Int)) (t : Nat) (l' : List (List Int)) : Prop where
  good : GoodM 8 l'
  val : ∀ j, j < 8 → fld l' j 0 = fld l j 0
  ver : ∀ j, j < 8 → fld l' j 1 = fld l j 1
  mine : ∀ j, j < 8 → locked P t j → fld l' j 2 = 9 ∧ fld l j 2 = 0
  other : ∀ j, j < 8 → ¬ locked P t j → fld l' j 2 = fld l j 2
theorem memOk_of {c : Int} {l : List (List Int)} (h1 : l.length = 8) (h2 : 0 ≤ c ∧ c ≤ 1000000) (h3 : ∀ i, i < 8 → (0 ≤ fld l i 0 ∧ fld l i 0 ≤ 65535) ∧ (0 ≤ fld l i 1 ∧ fld l i 1 ≤ c) ∧ (0 ≤ fld l i 2 ∧ fld l i 2 ≤ 99)) : memOk c l = true := by
  unfold memOk
  rw [h1]
  rw [Bool.and_eq_true, Bool.and_eq_true]
  refine ⟨rfl, decide_eq_true h2, allB_iff.2 fun j hj => ?_⟩
  have := h3 j hj
  unfold wordOk
  simp only [Bool.and_eq_true]
  exact ⟨decide_eq_true this.1, decide_eq_true this.2.1, decide_eq_true this.2.2⟩
theorem Lk.mem {cl c' : Int} {l P l' : List (List Int)} {t : Nat} (h : Lk l P t l') (hm : memOk cl l = true) (h1 : cl ≤ c') (h2 : c' ≤ 1000000) : memOk c' l' = true := by
  obtain ⟨m1, m2, m3⟩ := memOk_spec hm
  refine memOk_of h.good.1 (by omega) fun i hi => ?_
  obtain ⟨w0, w1, w2⟩ := m3 i hi
  rw [h.val i hi, h.ver i hi]
  refine ⟨w0, by omega, ?_⟩
  by_cases hl : locked P t i
  · have := (h.mine i hi hl).1; omega
  · rw [h.other i hi hl]; exact w2
theorem Lk.start {l P : List (List Int)} (hg : GoodM 8 l) : Lk l P 0 l := ⟨hg, fun _ _ => rfl, fun _ _ => rfl, fun j _ ⟨i, h, _⟩ => by omega, fun _ _ _ => rfl⟩
theorem Lk.lock {l P l' : List (List Int)} {t : Nat} (h : Lk l P t l') (hc : 0 ≤ fld P t 0 ∧ fld P t 0 ≤ 7) (hf : fld l' (fld P t 0).toNat 2 = 0) : Lk l P (t + 1) (std.vset l' (fld P t 0) 2 9) := by
  have fv := fun j k => fld_vset h.good hc.1 (by omega) (show 2 < 3 by omega) 9 j k
  have hn : ¬ locked P t (fld P t 0).toNat := fun hl => by have := (h.mine _ (by omega) hl).1; omega
  refine ⟨vset_good h.good _ _ _, fun j hj => ?_, fun j hj => ?_, fun j hj hl => ?_, fun j hj hl => ?_⟩
  · rw [fv, if_neg (by omega)]; exact h.val j hj
  · rw [fv, if_neg (by omega)]; exact h.ver j hj
  · rw [fv]
    by_cases hj2 : j = (fld P t 0).toNat
    · rw [if_pos ⟨hj2, rfl⟩]
      refine ⟨rfl, ?_⟩
      rw [hj2, ← h.other _ (by omega) hn]; exact hf
    · rw [if_neg (fun e => hj2 e.1)]
      obtain ⟨i, hi, he⟩ := hl
      have : i ≠ t := fun e => by subst e; omega
      exact h.mine j hj ⟨i, by omega, he⟩
  · have hj2 : j ≠ (fld P t 0).toNat := fun e => hl ⟨t, by omega, by omega⟩
    rw [fv, if_neg (fun e => hj2 e.1)]
    exact h.other j hj fun ⟨i, hi, he⟩ => hl ⟨i, by omega, he⟩
theorem Lk.free {l P l' : List (List Int)} {t : Nat} (h : Lk l P (t + 1) l') (hc : 0 ≤ fld P t 0 ∧ fld P t 0 ≤ 7) (hd : ∀ i, i < t → fld P i 0 ≠ fld P t 0) : Lk l P t (std.vset (std.vset l' (fld P t 0) 2 0) (fld P t 0) 1 (fld l' (fld P t 0).toNat 1)) := by
  have fv := fun j k => fld_vset (vset_good h.good (fld P t 0) 2 0) hc.1 (by omega) (show 1 < 3 by omega) (fld l' (fld P t 0).toNat 1) j k
  have fv2 := fun j k => fld_vset h.good hc.1 (by omega) (show 2 < 3 by omega) 0 j k
  refine ⟨vset_good (vset_good h.good _ _ _) _ _ _, fun j hj => ?_, fun j hj => ?_, fun j hj hl => ?_, fun j hj hl => ?_⟩
  · rw [fv, if_neg (by omega), fv2, if_neg (by omega)]; exact h.val j hj
  · rw [fv]
    by_cases hj2 : j = (fld P t 0).toNat
    · rw [if_pos ⟨hj2, rfl⟩, hj2]; exact h.ver _ (by omega)
    · rw [if_neg (fun e => hj2 e.1), fv2, if_neg (by omega)]; exact h.ver j hj
  · obtain ⟨i, hi, he⟩ := hl
    have hj2 : j ≠ (fld P t 0).toNat := fun e => hd i hi (by omega)
    rw [fv, if_neg (by omega), fv2, if_neg (fun e => hj2 e.1)]
    exact h.mine j hj ⟨i, by omega, he⟩
  · rw [fv, if_neg (by omega), fv2]
    by_cases hj2 : j = (fld P t 0).toNat
    · rw [if_pos ⟨hj2, rfl⟩]
      exact (h.mine j hj ⟨t, by omega, by omega⟩).2.symm
    · rw [if_neg (fun e => hj2 e.1)]
      refine h.other j hj fun ⟨i, hi, he⟩ => ?_
      by_cases e : i = t
      · subst e; omega
      · exact hl ⟨i, by omega, he⟩
/-- What a new commit has. -/
structure Base (cl : Int) (P : List (List Int)) (Rd : List Int) : Prop where
  clock : 0 ≤ cl ∧ cl ≤ 1000000
  len : P.length ≤ 8
  rlen : Rd.length ≤ 8
  rows : rowsOk P = true
  wide : ∀ r ∈ P, r.length = 2
  up : allB (upOk P) (P.length - 1) = true
  rise : risingB Rd = true
theorem Base.ok {cl : Int} {P : List (List Int)} {Rd : List Int} (h : Base cl P Rd) {ph pos wv : Int} (h1 : 1 ≤ ph ∧ ph ≤ 8) (h2 : 0 ≤ wv ∧ wv ≤ 1000000) (h3 : 0 ≤ pos ∧ pos ≤ phaseLen ph P Rd - 1) : commitOk 9 cl ph pos wv P Rd = true := by
  unfold commitOk
  simp only [Bool.and_eq_true]
  exact ⟨rfl, decide_eq_true h.clock, decide_eq_true h2, decide_eq_true h1, h.rows, h.rise, h.up, decide_eq_true h3⟩
theorem up_lt {P : List (List Int)} (h : allB (upOk P) (P.length - 1) = true) : ∀ {j i : Nat}, i < j → j < P.length → fld P i 0 < fld P j 0
  | j + 1, i, hi, hj => by
    have h1 := (allB_iff.1 h) j (by omega)
    unfold upOk at h1
    have h2 : fld P j 0 < fld P (j + 1) 0 := by simpa using h1
    by_cases e : i = j
    · subst e; exact h2
    · have := up_lt h (show i < j by omega) (by omega)
      omega
end X
