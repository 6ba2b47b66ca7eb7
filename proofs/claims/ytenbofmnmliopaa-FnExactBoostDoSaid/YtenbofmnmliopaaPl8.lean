/- Models of the functions, or plain laws about them; each theorem states its own conditions. -/
import Derived.Test.YtenbofmnmliopaaPl7
set_option linter.unusedVariables false
set_option linter.unusedSimpArgs false
open Go.Proofs
namespace X
open PM Go

/-! ## A free slot -/
theorem slotsGo_inv (l : List Int) : ∀ (m i : Nat) (o : List Bool), o.length = 8 → slotsGo l m i o = true → ∀ j, i ≤ j → j < i + m → l.getD j 0 ≠ 0 →
    bucket (slotKey (l.getD j 0)) = (j : Int).tdiv 4 ∧ o.getD (slotKey (l.getD j 0)).toNat false = false ∧ ∀ j', j < j' → j' < i + m → l.getD j' 0 ≠ 0 → slotKey (l.getD j' 0) ≠ slotKey (l.getD j 0)
  | 0, i, o, ho, _, j, h1, h2, _ => by omega
  | m + 1, i, o, ho, h, j, h1, h2, hz => by
    have hall := slotsGo_range l (m + 1) i o h
    unfold slotsGo at h
    by_cases e0 : l.getD i 0 = 0
    · simp only [e0, decide_true, cond_true] at h
      have hne : i ≠ j := fun e => by subst e; exact hz e0
      obtain ⟨a, b, c⟩ := slotsGo_inv l m (i + 1) o ho h j (by omega) (by omega) hz
      exact ⟨a, b, fun j' g1 g2 g3 => c j' g1 (by omega) g3⟩
    · simp only [e0, decide_false, cond_false] at h
      by_cases e1 : 1 ≤ l.getD i 0 ∧ l.getD i 0 ≤ 524288
      · simp only [e1, and_self, decide_true, cond_true] at h
        cases hq : o.getD (slotKey (l.getD i 0)).toNat false
        case true => rw [hq] at h; cases h
        case false =>
          rw [hq] at h
          simp only [cond_false] at h
          by_cases e2 : bucket (slotKey (l.getD i 0)) = (i : Int).tdiv 4
          · simp only [e2, decide_true, cond_true] at h
            obtain ⟨w1, w2, w3, w4⟩ := slot_range e0 (by omega) e1.2
            have hset : ∀ s : Int, 1 ≤ s → s ≤ 524288 → (o.set (slotKey (l.getD i 0)).toNat true).getD (slotKey s).toNat false = false → slotKey s ≠ slotKey (l.getD i 0) ∧ o.getD (slotKey s).toNat false = false := by
              intro s s1 s2 hs
              by_cases e : (slotKey (l.getD i 0)).toNat = (slotKey s).toNat
              · rw [← e] at hs
                have hlt : (slotKey (l.getD i 0)).toNat < o.length := by rw [ho]; unfold slotKey; omega
                rw [List.getD_eq_getElem?_getD, List.getElem?_set_self hlt] at hs
                cases hs
              · refine ⟨fun e' => e (by rw [e']), ?_⟩
                rw [List.getD_eq_getElem?_getD, List.getElem?_set_ne e] at hs
                rw [List.getD_eq_getElem?_getD]; exact hs
            by_cases e : i = j
            · subst e
              refine ⟨e2, hq, fun j' g1 g2 g3 => ?_⟩
              have hr' := hall j' (by omega) g2
              obtain ⟨_, b, _⟩ := slotsGo_inv l m (i + 1) _ (by simpa using ho) h j' (by omega) (by omega) g3
              exact (hset _ (by omega) hr'.2 b).1
            · have hr' := hall j h1 h2
              obtain ⟨a, b, c⟩ := slotsGo_inv l m (i + 1) _ (by simpa using ho) h j (by omega) (by omega) hz
              exact ⟨a, (hset _ (by omega) hr'.2 b).2, fun j' g1 g2 g3 => c j' g1 (by omega) g3⟩
          · simp only [e2, decide_false, cond_false] at h; cases h
      · simp only [e1, decide_false, cond_false] at h; cases h

theorem atGo_none (l : List Int) (key : Int) : ∀ (m i : Nat), atGo l key m i = none → ∀ j, i ≤ j → j < i + m → 1 ≤ l.getD j 0 → slotKey (l.getD j 0) ≠ key
  | 0, i, _, j, h1, h2, _ => by omega
  | m + 1, i, h, j, h1, h2, h3 => by
    unfold atGo at h
    by_cases e : i = j
    · subst e
      simp only [h3, decide_true, cond_true] at h
      by_cases e2 : slotKey (l.getD i 0) = key
      · simp only [e2, decide_true, cond_true] at h; cases h
      · exact e2
    · have : atGo l key m (i + 1) = none := by
        by_cases e1 : 1 ≤ l.getD i 0
        · simp only [e1, decide_true, cond_true] at h
          by_cases e2 : slotKey (l.getD i 0) = key
          · simp only [e2, decide_true, cond_true] at h; cases h
          · simpa only [e2, decide_false, cond_false] using h
        · simpa only [e1, decide_false, cond_false] using h
      exact atGo_none l key m (i + 1) this j (by omega) (by omega) h3

theorem bucket_eq4 {k : Int} (h0 : 0 ≤ k) (h1 : k < 8) : bucket k = (7 * k + 3) % 4 := by
  unfold bucket
  rw [if_pos ⟨h0, h1⟩, Int.tmod_eq_emod_of_nonneg (by omega), Int.mul_comm]

/-- A key that isn't there has room in its bucket. -/
theorem free_slot {l : List Int} (h : slotsOk l = true) {key : Int} (h0 : 0 ≤ key) (h7 : key ≤ 7) (ha : atOf l key < 0) : ∃ j : Nat, 4 * bucket key ≤ j ∧ (j : Int) < 4 * bucket key + 4 ∧ l.getD j 0 = 0 := by
  have hb := bucket_eq4 h0 (by omega)
  have hnone : atGo l key 16 0 = none := by
    unfold atOf at ha
    cases e : atGo l key 16 0 with
    | none => rfl
    | some j => rw [e] at ha; simp only [got] at ha; omega
  obtain ⟨hl, hr⟩ := slotsOk_spec h
  unfold slotsOk at h
  rw [Bool.and_eq_true] at h
  have inv := slotsGo_inv l 16 0 (List.replicate 8 false) (by simp) h.2
  obtain ⟨b, hbb⟩ : ∃ b : Nat, bucket key = (b : Int) ∧ b < 4 := ⟨(bucket key).toNat, by omega, by omega⟩
  by_cases z0 : l.getD (4 * b) 0 = 0
  · exact ⟨4 * b, by omega, by omega, z0⟩
  by_cases z1 : l.getD (4 * b + 1) 0 = 0
  · exact ⟨4 * b + 1, by omega, by omega, z1⟩
  exfalso
  have r0 := hr (4 * b) (by omega)
  have r1 := hr (4 * b + 1) (by omega)
  obtain ⟨i1, _, i3⟩ := inv (4 * b) (by omega) (by omega) z0
  obtain ⟨j1, _, _⟩ := inv (4 * b + 1) (by omega) (by omega) z1
  have i3 := i3 (4 * b + 1) (by omega) (by omega) z1
  have n0 := atGo_none l key 16 0 hnone (4 * b) (by omega) (by omega) (by omega)
  have n1 := atGo_none l key 16 0 hnone (4 * b + 1) (by omega) (by omega) (by omega)
  obtain ⟨_, _, a1, a2⟩ := slot_range z0 r0.1 r0.2
  obtain ⟨_, _, c1, c2⟩ := slot_range z1 r1.1 r1.2
  have k0 := bucket_eq4 (k := slotKey (l.getD (4 * b) 0)) a1 a2
  have k1 := bucket_eq4 (k := slotKey (l.getD (4 * b + 1) 0)) c1 c2
  rw [Int.tdiv_eq_ediv_of_nonneg (by omega)] at i1 j1
  change 0 ≤ slotKey (l.getD (4 * b) 0) at a1
  change slotKey (l.getD (4 * b) 0) < 8 at a2
  change 0 ≤ slotKey (l.getD (4 * b + 1) 0) at c1
  change slotKey (l.getD (4 * b + 1) 0) < 8 at c2
  generalize slotKey (l.getD (4 * b) 0) = x at *
  generalize slotKey (l.getD (4 * b + 1) 0) = y at *
  omega
end X
