/- Models of the functions, or plain laws about them; each theorem states its own conditions. -/
import Derived.Test.YtnkgcegeinemjaaQC3
set_option linter.unusedVariables false
set_option linter.unusedSimpArgs false
open Go.Proofs
namespace X
open PM Go

/-! ## Commits that write -/
def cel (P : List (List Int)) (i : Nat) : Nat := (fld P i 0).toNat
/-- All of P's cells locked; of the first a the value is written; the first b are unlocked. -/
structure Wr (l P : List (List Int)) (wv : Int) (a b : Nat) (l' : List (List Int)) : Prop where
  good : GoodM 8 l'
  other : ∀ j, j < 8 → ¬ locked P P.length j → ∀ k, fld l' j k = fld l j k
  own : ∀ i, i < P.length → fld l' (cel P i) 2 = if i < b then 0 else 9
  ver : ∀ i, i < P.length → fld l' (cel P i) 1 = if i < b then wv else fld l (cel P i) 1
  val : ∀ i, i < P.length → fld l' (cel P i) 0 = if i < a then fld P i 1 else fld l (cel P i) 0
  was : ∀ i, i < P.length → fld l (cel P i) 2 = 0
theorem cel_lt {P : List (List Int)} (h : rowsOk P = true) {i : Nat} (hi : i < P.length) : cel P i < 8 ∧ ((cel P i : Nat) : Int) = fld P i 0 := by
  have := ((rowsOk_spec h).2 i hi).1
  unfold cel
  omega
theorem cel_ne {P : List (List Int)} (h : rowsOk P = true) (hu : allB (upOk P) (P.length - 1) = true) {i j : Nat} (hi : i < P.length) (hj : j < P.length) (hn : i ≠ j) : cel P i ≠ cel P j := by
  have h1 := (cel_lt h hi).2
  have h2 := (cel_lt h hj).2
  rcases Nat.lt_or_gt_of_ne hn with e | e
  · have := up_lt hu e hj; omega
  · have := up_lt hu e hi; omega
theorem wide_none {l : List (List Int)} (hg : GoodM 8 l) {j k : Nat} (hj : j < 8) (hk : 3 ≤ k) : fld l j k = 0 := by
  have hw : (l.getD j []).length = 3 := hg.2 _ (getD_mem (by have := hg.1; omega))
  unfold fld
  rw [List.getD_eq_getElem?_getD, List.getElem?_eq_none (by omega)]; rfl
theorem Lk.toWr {cl : Int} {l P : List (List Int)} {Rd : List Int} (hb : Base cl P Rd) {l' : List (List Int)} (hl : GoodM 8 l) (h : Lk l P P.length l') (wv : Int) : Wr l P wv 0 0 l' := by
  have lk : ∀ i, i < P.length → locked P P.length (cel P i) := fun i hi => ⟨i, hi, (cel_lt hb.rows hi).2.symm⟩
  refine ⟨h.good, fun j hj hn k => ?_, fun i hi => ?_, fun i hi => ?_, fun i hi => ?_, fun i hi => ?_⟩
  · by_cases h3 : 3 ≤ k
    · rw [wide_none h.good hj h3, wide_none hl hj h3]
    · have : k = 0 ∨ k = 1 ∨ k = 2 := by omega
      rcases this with rfl | rfl | rfl
      · exact h.val j hj
      · exact h.ver j hj
      · exact h.other j hj hn
  · rw [if_neg (by omega)]; exact (h.mine _ (cel_lt hb.rows hi).1 (lk i hi)).1
  · rw [if_neg (by omega)]; exact h.ver _ (cel_lt hb.rows hi).1
  · rw [if_neg (by omega)]; exact h.val _ (cel_lt hb.rows hi).1
  · exact (h.mine _ (cel_lt hb.rows hi).1 (lk i hi)).2
theorem Wr.store {cl : Int} {l P : List (List Int)} {Rd : List Int} (hb : Base cl P Rd) {l' : List (List Int)} {wv : Int} {a : Nat} (h : Wr l P wv a 0 l') (ha : a < P.length) : Wr l P wv (a + 1) 0 (std.vset l' (fld P a 0) 0 (fld P a 1)) := by
  have hc := ((rowsOk_spec hb.rows).2 a ha).1
  have fv := fun j k => fld_vset h.good hc.1 (by omega) (show 0 < 3 by omega) (fld P a 1) j k
  refine ⟨vset_good h.good _ _ _, fun j hj hn k => ?_, fun i hi => ?_, fun i hi => ?_, fun i hi => ?_, h.was⟩
  · rw [fv, if_neg (fun e => hn ⟨a, ha, by omega⟩)]; exact h.other j hj hn k
  · rw [fv, if_neg (by omega)]; exact h.own i hi
  · rw [fv, if_neg (by omega)]; exact h.ver i hi
  · rw [fv]
    by_cases e : i = a
    · subst e
      rw [if_pos ⟨rfl, rfl⟩, if_pos (by omega)]
    · rw [if_neg (fun h => cel_ne hb.rows hb.up hi ha e h.1), h.val i hi]
      by_cases h1 : i < a
      · rw [if_pos h1, if_pos (by omega)]
      · rw [if_neg h1, if_neg (by omega)]
theorem Wr.unlock {cl : Int} {l P : List (List Int)} {Rd : List Int} (hb : Base cl P Rd) {l' : List (List Int)} {wv : Int} {a b : Nat} (h : Wr l P wv a b l') (ht : b < P.length) : Wr l P wv a (b + 1) (std.vset (std.vset l' (fld P b 0) 2 0) (fld P b 0) 1 wv) := by
  have hc := ((rowsOk_spec hb.rows).2 b ht).1
  have fv := fun j k => fld_vset (vset_good h.good (fld P b 0) 2 0) hc.1 (by omega) (show 1 < 3 by omega) wv j k
  have fv2 := fun j k => fld_vset h.good hc.1 (by omega) (show 2 < 3 by omega) 0 j k
  refine ⟨vset_good (vset_good h.good _ _ _) _ _ _, fun j hj hn k => ?_, fun i hi => ?_, fun i hi => ?_, fun i hi => ?_, h.was⟩
  · rw [fv, if_neg (fun e => hn ⟨b, ht, by omega⟩), fv2, if_neg (fun e => hn ⟨b, ht, by omega⟩)]; exact h.other j hj hn k
  · rw [fv, if_neg (by omega), fv2]
    by_cases e : i = b
    · subst e
      rw [if_pos ⟨rfl, rfl⟩, if_pos (by omega)]
    · rw [if_neg (fun h => cel_ne hb.rows hb.up hi ht e h.1), h.own i hi]
      by_cases h1 : i < b
      · rw [if_pos h1, if_pos (by omega)]
      · rw [if_neg h1, if_neg (by omega)]
  · rw [fv]
    by_cases e : i = b
    · subst e
      rw [if_pos ⟨rfl, rfl⟩, if_pos (by omega)]
    · rw [if_neg (fun h => cel_ne hb.rows hb.up hi ht e h.1), fv2, if_neg (by omega), h.ver i hi]
      by_cases h1 : i < b
      · rw [if_pos h1, if_pos (by omega)]
      · rw [if_neg h1, if_neg (by omega)]
  · rw [fv, if_neg (by omega), fv2, if_neg (by omega)]; exact h.val i hi
theorem Wr.mem {cl : Int} {l P : List (List Int)} {Rd : List Int} (hb : Base cl P Rd) (hm : memOk cl l = true) {l' : List (List Int)} {wv : Int} {a b : Nat} (h : Wr l P wv a b l') {c' : Int} (h0 : 0 ≤ wv ∧ wv ≤ c') (h1 : cl ≤ c') (h2 : c' ≤ 1000000) : memOk c' l' = true := by
  obtain ⟨m1, m2, m3⟩ := memOk_spec hm
  refine memOk_of h.good.1 (by omega) fun j hj => ?_
  have w := m3 j hj
  by_cases hl : locked P P.length j
  · obtain ⟨i, hi, he⟩ := hl
    have ej : j = cel P i := by unfold cel; omega
    have hr := ((rowsOk_spec hb.rows).2 i hi).2
    subst ej
    rw [h.own i hi, h.ver i hi, h.val i hi]
    refine ⟨?_, ?_, ?_⟩
    · split
      · exact hr
      · exact w.1
    · split
      · exact h0
      · have := w.2.1; omega
    · split <;> omega
  · rw [h.other j hj hl, h.other j hj hl, h.other j hj hl]
    exact ⟨w.1, by have := w.2.1; omega, w.2.2⟩
end X
