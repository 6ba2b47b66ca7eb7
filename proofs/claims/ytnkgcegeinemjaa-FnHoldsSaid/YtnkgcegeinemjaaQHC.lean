/- Models of the functions, or plain laws about them; each theorem states its own conditions. -/
import Derived.Test.YtnkgcegeinemjaaQHB
set_option linter.unusedVariables false
set_option linter.unusedSimpArgs false
open Go.Proofs
namespace X
open PM Go

/-! ## FnHolds -/
def holdR (r : List Int) : Prop := holdOk (r.getD 0 0) (r.getD 1 0) (r.getD 2 0) = true
def PR (r s : List Int) : Prop := ltR r s ∧ (r.getD 1 0 = s.getD 1 0 → r.getD 2 0 ≠ 2 ∧ s.getD 2 0 ≠ 2)
theorem getD_eq {l : List (List Int)} {q : Nat} (hq : q < l.length) : l.getD q [] = l[q] := by rw [List.getD_eq_getElem?_getD, List.getElem?_eq_getElem hq]; rfl
/-- Between two holds of one lock all are of that lock. -/
theorem same_adj {l : List (List Int)} (h : holdsOk l = true) {i j : Nat} (hij : i < j) (hj : j < l.length) (he : fld l i 1 = fld l j 1) : fld l i 2 ≠ 2 ∧ fld l j 2 ≠ 2 := by
  have mono : ∀ a b, a ≤ b → b < l.length → fld l a 1 ≤ fld l b 1 := fun a b hab hb => by
    by_cases e : a = b
    · subst e; exact Int.le_refl _
    · rcases holds_lex h (show a < b by omega) hb with q | q
      · exact Int.le_of_lt q
      · exact Int.le_of_eq q.1
  have m1 := mono i (i + 1) (by omega) (by omega)
  have m2 := mono (i + 1) j (by omega) hj
  obtain ⟨j', rfl⟩ : ∃ j', j = j' + 1 := ⟨j - 1, by omega⟩
  have m3 := mono i j' (by omega) (by omega)
  have m4 := mono j' (j' + 1) (by omega) hj
  have p1 := pair_spec (good_pair (holdsOk_good h (show i + 1 < l.length by omega)))
  have p2 := pair_spec (good_pair (holdsOk_good h (show j' + 1 < l.length by omega)))
  refine ⟨?_, ?_⟩
  · rcases p1 with q | q
    · omega
    · exact q.2.2.2
  · rcases p2 with q | q
    · omega
    · exact q.2.2.1
theorem holdsOk_iff {l : List (List Int)} : holdsOk l = true ↔ (∀ r ∈ l, holdR r) ∧ l.Pairwise PR := by
  constructor
  · intro h
    refine ⟨fun r hr => ?_, ?_⟩
    · obtain ⟨i, hi, rfl⟩ := List.getElem_of_mem hr
      have := good_hold (holdsOk_good h hi)
      unfold fld at this
      rw [getD_eq hi] at this
      exact this
    · rw [List.pairwise_iff_getElem]
      intro i j hi hj hij
      have h1 := holds_lex h hij hj
      have h2 := same_adj h hij hj
      unfold lexlt fld at h1
      unfold fld at h2
      rw [getD_eq hi, getD_eq hj] at h1 h2
      exact ⟨h1, h2⟩
  · rintro ⟨h1, h2⟩
    unfold holdsOk
    rw [holdsGo_iff]
    intro j _ hj
    have hj : j < l.length := by omega
    have hh : holdOk (fld l j 0) (fld l j 1) (fld l j 2) = true := by
      unfold fld
      rw [getD_eq hj]
      exact h1 _ (List.getElem_mem hj)
    unfold goodAt
    rw [hh, cond_true]
    by_cases h0 : 0 < j
    · rw [decide_eq_true h0, cond_true]
      rw [List.pairwise_iff_getElem] at h2
      have hp := h2 (j - 1) j (by omega) hj (by omega)
      unfold PR ltR at hp
      rw [← getD_eq (show j - 1 < l.length by omega), ← getD_eq hj] at hp
      unfold pairOk
      unfold fld
      generalize l.getD (j - 1) [] = r at hp
      generalize l.getD j [] = s at hp
      obtain ⟨p1, p2⟩ := hp
      rw [decide_eq_false (show ¬ s.getD 1 0 < r.getD 1 0 by omega), cond_false]
      cases he : r.getD 1 0 == s.getD 1 0
      · rfl
      · have e := eq_of_beq he
        obtain ⟨p3, p4⟩ := p2 e
        rw [cond_true, decide_eq_false (show ¬ s.getD 0 0 ≤ r.getD 0 0 by omega), cond_false, show (s.getD 2 0 == 2) = false from beq_eq_false_iff_ne.2 p4, cond_false, show (r.getD 2 0 == 2) = false from beq_eq_false_iff_ne.2 p3]; rfl
    · rw [decide_eq_false h0]; rfl
/-- No blocker. -/
theorem blocksGo_mem (l : List (List Int)) (who what mode : Int) : ∀ (m i : Nat) (o : List Int), (blocksGo l who what mode m i o).length = 0 → o.length = 0 ∧ ∀ j, i ≤ j → j < i + m → fld l j 1 = what → fld l j 0 ≠ who → mode ≠ 2 ∧ fld l j 2 ≠ 2
  | 0, i, o, h => ⟨h, fun j h1 h2 => by omega⟩
  | m + 1, i, o, h => by
    have big : ∀ x : Int, (blocksGo l who what mode m (i + 1) (o ++ [x])).length = 0 → False := fun x hx => by
      have := (blocksGo_mem l who what mode m (i + 1) _ hx).1
      simp at this
    have next : (blocksGo l who what mode m (i + 1) o).length = 0 → (fld l i 1 = what → fld l i 0 ≠ who → mode ≠ 2 ∧ fld l i 2 ≠ 2) → o.length = 0 ∧ ∀ j, i ≤ j → j < i + (m + 1) → fld l j 1 = what → fld l j 0 ≠ who → mode ≠ 2 ∧ fld l j 2 ≠ 2 := fun hx hi => by
      obtain ⟨a, b⟩ := blocksGo_mem l who what mode m (i + 1) o hx
      refine ⟨a, fun j h1 h2 => ?_⟩
      by_cases e : i = j
      · subst e; exact hi
      · exact b j (by omega) (by omega)
    rw [blocksGo] at h
    cases e1 : fld l i 1 == what
    · rw [e1, cond_false] at h
      exact next h fun q => absurd q (ne_of_beq_false e1)
    · rw [e1, cond_true] at h
      cases e2 : fld l i 0 == who
      · rw [e2, Bool.not_false, cond_true] at h
        cases e3 : mode == 2
        · rw [e3, cond_false] at h
          cases e4 : fld l i 2 == 2
          · rw [e4, cond_false] at h
            exact next h fun _ _ => ⟨ne_of_beq_false e3, ne_of_beq_false e4⟩
          · rw [e4, cond_true] at h
            exact (big _ h).elim
        · rw [e3, cond_true] at h
          exact (big _ h).elim
      · rw [e2, Bool.not_true, cond_false] at h
        exact next h fun _ q => absurd (eq_of_beq e2) q
theorem noblock {l : List (List Int)} {who what mode : Int} (ho : holdsOk l = true) (hm : 1 ≤ mode ∧ mode ≤ 2) (h : (blocks l who what mode).length = 0) : ∀ r ∈ l, r.getD 1 0 = what → r.getD 0 0 ≠ who → mode ≠ 2 ∧ r.getD 2 0 ≠ 2 := by
  unfold blocks at h
  rw [ho, cond_true, decide_eq_true hm, cond_true] at h
  intro r hr
  obtain ⟨i, hi, rfl⟩ := List.getElem_of_mem hr
  have := (blocksGo_mem l who what mode l.length 0 [] h).2 i (Nat.zero_le _) (by omega)
  unfold fld at this
  rw [getD_eq hi] at this
  exact this
theorem insL_PR (who what m : Int) : ∀ {l : List (List Int)}, l.Pairwise PR → (∀ r ∈ l, keyIs who what r = false) → (∀ r ∈ l, r.getD 1 0 = what → m ≠ 2 ∧ r.getD 2 0 ≠ 2) → (insL who what m l).Pairwise PR
  | [], _, _, _ => List.pairwise_singleton _ _
  | r :: l, hs, hk, hb => by
    have h1 := List.pairwise_cons.1 hs
    rw [insL]
    cases hg : geR who what r
    · rw [cond_false, List.pairwise_cons]
      refine ⟨fun x hx => ?_, insL_PR who what m h1.2 (fun s hs => hk s (List.mem_cons_of_mem _ hs)) (fun s hs => hb s (List.mem_cons_of_mem _ hs))⟩
      rcases insL_mem hx with hx | rfl
      · exact h1.1 x hx
      · exact ⟨nge_lt hg, fun e => (hb r (by simp) e).symm⟩
    · rw [cond_true, List.pairwise_cons]
      have hr : ltR [who, what, m] r := ge_lt hg (hk r (by simp))
      refine ⟨fun x hx => ?_, hs⟩
      rcases List.mem_cons.1 hx with rfl | hx'
      · exact ⟨hr, fun e => hb x (by simp) e.symm⟩
      · exact ⟨ltR_trans hr (h1.1 x hx').1, fun e => hb x hx e.symm⟩
theorem row_eta {r : List Int} (h : r.length = 3) : r = [r.getD 0 0, r.getD 1 0, r.getD 2 0] := (row3 h).symm
theorem ask_holds {l : List (List Int)} {who what mode : Int} (hw : ∀ r ∈ l, r.length = 3) (h : askOk l who what mode = true) : holdsOk (askRows l who what mode) = true ∧ ∃ m, mode ≤ m ∧ [who, what, m] ∈ askRows l who what mode := by
  unfold askOk at h
  rw [Bool.and_eq_true, Bool.and_eq_true] at h
  obtain ⟨h1, h2, h3⟩ := h
  have h3 := eq_of_beq h3
  have hh := holdOk_spec h2
  have hnb := noblock h1 hh.2.2 h3
  obtain ⟨k1, k2⟩ := holdsOk_iff.1 h1
  unfold askRows
  cases hk : keyAt l who what with
  | none =>
    have hn := keyAt_none hk
    simp only
    refine ⟨holdsOk_iff.2 ⟨fun r hr => ?_, insL_PR who what mode k2 hn fun r hr e => hnb r hr e fun e2 => ?_⟩, mode, Int.le_refl _, (insL_perm who what mode l).mem_iff.2 (by simp)⟩
    · rcases insL_mem hr with hr | rfl
      · exact k1 r hr
      · exact h2
    · have := hn r hr
      unfold keyIs at this
      rw [e, e2, show (what == what) = true from beq_self_eq_true _, show (who == who) = true from beq_self_eq_true _] at this
      cases this
  | some p =>
    obtain ⟨p1, p2⟩ := keyAt_some hk
    simp only
    have hmem : l.getD p [] ∈ l := getD_mem p1
    have hrow := row_eta (hw _ hmem)
    obtain ⟨e1, e2⟩ := keyIs_of p2
    have hm2 := holdOk_spec (k1 _ hmem)
    have hmx : std.imax (fld l p 2) mode = if mode > fld l p 2 then mode else fld l p 2 := std_imax _ _
    have hfl : fld l p 2 = (l.getD p []).getD 2 0 := rfl
    have hle : mode ≤ std.imax (fld l p 2) mode := by rw [hmx]; split <;> omega
    have hok : holdR [who, what, std.imax (fld l p 2) mode] := by
      show holdOk who what _ = true
      rw [holdOk_dec, decide_eq_true hh.1, decide_eq_true hh.2.1, Bool.true_and, Bool.true_and]
      refine decide_eq_true ?_
      have hm3 : 1 ≤ fld l p 2 ∧ fld l p 2 ≤ 2 := hm2.2.2
      have hm4 := hh.2.2
      rw [hmx]
      by_cases c : mode > fld l p 2
      · rw [if_pos c]; exact hm4
      · rw [if_neg c]; exact hm3
    -- what others of the lock say
    have other : ∀ r ∈ l, r.getD 1 0 = what → r.getD 0 0 ≠ who → PR r (l.getD p []) ∨ PR (l.getD p []) r → std.imax (fld l p 2) mode ≠ 2 ∧ r.getD 2 0 ≠ 2 := by
      intro r hr a1 a2 hp
      obtain ⟨q1, q2⟩ := hnb r hr a1 a2
      refine ⟨?_, q2⟩
      have : (l.getD p []).getD 2 0 ≠ 2 := by
        rcases hp with hp | hp
        · exact (hp.2 (a1.trans e1.symm)).2
        · exact (hp.2 (e1.trans a1.symm)).1
      rw [hmx, hfl]; split <;> assumption
    refine ⟨holdsOk_iff.2 ⟨fun r hr => ?_, ?_⟩, _, hle, ?_⟩
    · rcases List.mem_or_eq_of_mem_set hr with hr | rfl
      · exact k1 r hr
      · exact hok
    · rw [List.pairwise_iff_getElem] at k2 ⊢
      intro i j hi hj hij
      rw [List.length_set] at hi hj
      have hp := k2 i j hi hj hij
      rw [List.getElem_set, List.getElem_set]
      by_cases c1 : p = i
      · subst c1
        rw [if_pos rfl, if_neg (by omega)]
        rw [← getD_eq hi] at hp
        have hlt : ltR [who, what, std.imax (fld l p 2) mode] l[j] := by
          have := hp.1
          unfold ltR at this ⊢
          rw [e1, e2] at this
          exact this
        exact ⟨hlt, fun e => other _ (List.getElem_mem hj) e.symm (fun e3 => by
          unfold ltR at hlt
          simp only [List.getD_cons_zero, List.getD_cons_succ] at hlt e
          omega) (.inr hp)⟩
      · rw [if_neg c1]
        by_cases c2 : p = j
        · subst c2
          rw [if_pos rfl]
          rw [← getD_eq hj] at hp
          have hlt : ltR l[i] [who, what, std.imax (fld l p 2) mode] := by
            have := hp.1
            unfold ltR at this ⊢
            rw [e1, e2] at this
            exact this
          exact ⟨hlt, fun e => (other _ (List.getElem_mem hi) e (fun e3 => by
            unfold ltR at hlt
            simp only [List.getD_cons_zero, List.getD_cons_succ] at hlt e
            omega) (.inl hp)).symm⟩
        · rw [if_neg c2]; exact hp
    · rw [List.mem_iff_getElem?]
      exact ⟨p, by rw [List.getElem?_set_self p1]⟩
theorem free_holds {l : List (List Int)} (h : holdsOk l = true) (who : Int) : holdsOk (holdFree l who) = true := by
  unfold holdFree
  rw [h, cond_true]
  obtain ⟨k1, k2⟩ := holdsOk_iff.1 h
  exact holdsOk_iff.2 ⟨fun r hr => k1 r (List.mem_filter.1 hr).1, k2.filter _⟩
theorem free_who {l : List (List Int)} (h : holdsOk l = true) (who : Int) : ∀ r ∈ holdFree l who, r.getD 0 0 ≠ who := by
  unfold holdFree
  rw [h, cond_true]
  intro r hr
  have := (List.mem_filter.1 hr).2
  unfold whoNe at this
  rw [Bool.not_eq_true'] at this
  exact ne_of_beq_false this
theorem key_uniq {l : List (List Int)} (h : l.Pairwise ltR) {r s : List Int} (hr : r ∈ l) (hs : s ∈ l) (e1 : r.getD 1 0 = s.getD 1 0) (e2 : r.getD 0 0 = s.getD 0 0) : r = s := by
  obtain ⟨i, hi, rfl⟩ := List.getElem_of_mem hr
  obtain ⟨j, hj, rfl⟩ := List.getElem_of_mem hs
  rw [List.pairwise_iff_getElem] at h
  have no : ∀ a b : List Int, a.getD 1 0 = b.getD 1 0 → a.getD 0 0 = b.getD 0 0 → ¬ ltR a b := fun a b g1 g2 g => by unfold ltR at g; omega
  by_cases c : i < j
  · exact absurd (h i j hi hj c) (no _ _ e1 e2)
  · by_cases c2 : j < i
    · exact absurd (h j i hj hi c2) (no _ _ e1.symm e2.symm)
    · have : i = j := by omega
      subst this; rfl
theorem holdOf_mem {l : List (List Int)} (h : holdsOk l = true) {who what m : Int} (hm : [who, what, m] ∈ l) : holdOf l who what = m := by
  have e : holdOf l who what = match keyAt l who what with | some p => fld l p 2 | none => 0 := by
    unfold holdOf keyAt findB
    rw [h, cond_true, modeGo_key]
    cases findF (fun i => keyIs who what (l.getD i [])) l.length 0 <;> rfl
  have hkk : keyIs who what [who, what, m] = true := by
    unfold keyIs
    simp
  rw [e]
  cases hk : keyAt l who what with
  | none => have := keyAt_none hk _ hm; rw [hkk] at this; cases this
  | some p =>
    obtain ⟨p1, p2⟩ := keyAt_some hk
    obtain ⟨e1, e2⟩ := keyIs_of p2
    have := key_uniq (holds_sorted h) (getD_mem (d := []) p1) hm e1 e2
    simp only
    unfold fld
    rw [this]; rfl
theorem has_true (l : List Int) (hb : l.length ≤ 2147483648) (x : Int) (hx : x ∈ l) (k : Bool → R) : laws_has std l x k = k true := by
  unfold laws_has laws_has_f
  generalize hN : std.fuel = N
  have hN : 4294967296 = N := hN
  have eg : ∀ i : Nat, std.iget l (i : Int) = l.getD i 0 := fun i => rfl
  have lp : laws_has_l0 std N l x 0 (fun t => k t) (fun _ => k false) = bif allB (fun i => !(l.getD i 0 == x)) l.length then k false else k true := by
    refine loop_all0 (F := fun n i => laws_has_l0 std n l x i (fun t => k t) (fun _ => k false)) (by omega) (fun n i hi => ?_) (fun n => ?_)
    · simp only [laws_has_l0, std_ilen, lt_nat_t hi, inb_nat_t hi, bt, eg, std_eq, add1 (i := i) (by omega)]
      cases l.getD i 0 == x <;> rfl
    · simp only [laws_has_l0, std_ilen, lt_nat_f (Nat.le_refl _), bf]
  rw [lp]
  have : allB (fun i => !(l.getD i 0 == x)) l.length = false := by
    cases e : allB (fun i => !(l.getD i 0 == x)) l.length
    · rfl
    · obtain ⟨i, hi, rfl⟩ := List.getElem_of_mem hx
      have := allB_iff.1 e i hi
      rw [List.getD_eq_getElem?_getD, List.getElem?_eq_getElem hi] at this
      simp at this
  rw [this]; rfl
theorem sameHolds_refl (a : List (List Int)) (hb : a.length ≤ 2147483648) (k : Bool → R) : laws_sameHolds std a a k = k true := by
  unfold laws_sameHolds laws_sameHolds_f
  generalize hN : std.fuel = N
  have hN : 4294967296 = N := hN
  have e : std.not (std.eq (std.vlen a) (std.vlen a)) = false := by simp
  have lp : laws_sameHolds_l0 std N a a 0 (fun t => k t) (fun _ => k true) = bif allB (fun _ => true) a.length then k true else k false := by
    refine loop_all0 (F := fun n i => laws_sameHolds_l0 std n a a i (fun t => k t) (fun _ => k true)) (by omega) (fun n i hi => ?_) (fun n => ?_)
    · have e2 : ∀ x y z : Int, std.not (std.and (std.eq x x) (std.and (std.eq y y) (std.eq z z))) = false := fun x y z => by simp
      simp only [laws_sameHolds_l0, std_vlen, lt_nat_t hi, inb_nat_t hi, bt, bf, e2, add1 (i := i) (by omega)]
    · simp only [laws_sameHolds_l0, std_vlen, lt_nat_f (Nat.le_refl _), bf]
  rw [e, lp, show allB (fun _ => true) a.length = true from allB_iff.2 fun _ _ => rfl]; rfl
end X
