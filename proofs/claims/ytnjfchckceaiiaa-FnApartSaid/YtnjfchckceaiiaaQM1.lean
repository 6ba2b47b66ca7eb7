/- Models of the functions, or plain laws about them; each theorem states its own conditions. -/
import Derived.Test.YtnjfchckceaiiaaPlM
set_option linter.unusedVariables false
set_option linter.unusedSimpArgs false

namespace X
open PM Go

/-! ## Slots as a map -/
def Ok1 (s : Int) (j : Nat) : Prop := 1 ≤ s ∧ s ≤ 524288 ∧ bucket (slotKey s) = (j : Int).tdiv 4
def SlOk (l : List Int) : Prop := l.length = 16 ∧ ∀ j, j < 16 → l.getD j 0 = 0 ∨ (Ok1 (l.getD j 0) j ∧ ∀ j', j' < 16 → j' ≠ j → l.getD j' 0 ≠ 0 → slotKey (l.getD j' 0) ≠ slotKey (l.getD j 0))
theorem slotKey_range {s : Int} (h1 : 1 ≤ s) (h2 : s ≤ 524288) : 0 ≤ slotKey s ∧ slotKey s < 8 := by
  obtain ⟨_, _, a, b⟩ := slot_range (s := s) (by omega) (by omega) h2
  exact ⟨a, b⟩
theorem slotsGo_intro (l : List Int) : ∀ (m i : Nat) (o : List Bool), o.length = 8 →
    (∀ j, i ≤ j → j < i + m → l.getD j 0 = 0 ∨ (Ok1 (l.getD j 0) j ∧ o.getD (slotKey (l.getD j 0)).toNat false = false ∧ ∀ j', j < j' → j' < i + m → l.getD j' 0 ≠ 0 → slotKey (l.getD j' 0) ≠ slotKey (l.getD j 0))) →
    slotsGo l m i o = true
  | 0, i, o, _, _ => rfl
  | m + 1, i, o, ho, h => by
    unfold slotsGo
    rcases h i (Nat.le_refl _) (by omega) with e0 | ⟨⟨e1, e2, e3⟩, e4, e5⟩
    · simp only [e0, decide_true, cond_true]
      exact slotsGo_intro l m (i + 1) o ho fun j h1 h2 => by
        rcases h j (by omega) (by omega) with g | ⟨g1, g2, g3⟩
        · exact .inl g
        · exact .inr ⟨g1, g2, fun j' q1 q2 => g3 j' q1 (by omega)⟩
    · have hne : ¬ (l.getD i 0 = 0) := by omega
      simp only [hne, decide_false, cond_false, e1, e2, and_self, decide_true, cond_true, e4, e3]
      refine slotsGo_intro l m (i + 1) _ (by simpa using ho) fun j h1 h2 => ?_
      rcases h j (by omega) (by omega) with g | ⟨g1, g2, g3⟩
      · exact .inl g
      · refine .inr ⟨g1, ?_, fun j' q1 q2 => g3 j' q1 (by omega)⟩
        have hd := e5 j (by omega) (by omega) (by have := g1.1; omega)
        have r1 := slotKey_range e1 e2
        have r2 := slotKey_range g1.1 g1.2.1
        have hne : (slotKey (l.getD i 0)).toNat ≠ (slotKey (l.getD j 0)).toNat := by omega
        rw [List.getD_eq_getElem?_getD, List.getElem?_set_ne hne, ← List.getD_eq_getElem?_getD]
        exact g2
theorem slotsOk_iff {l : List Int} : slotsOk l = true ↔ SlOk l := by
  constructor
  · intro h
    obtain ⟨hl, hr⟩ := slotsOk_spec h
    refine ⟨hl, fun j hj => ?_⟩
    by_cases h0 : l.getD j 0 = 0
    · exact .inl h0
    · have h' := h
      unfold slotsOk at h'
      rw [Bool.and_eq_true] at h'
      obtain ⟨a, _, c⟩ := slotsGo_inv l 16 0 _ (by simp) h'.2 j (by omega) (by omega) h0
      refine .inr ⟨⟨by have := hr j hj; omega, (hr j hj).2, a⟩, fun j' g1 g2 g3 e => ?_⟩
      by_cases hlt : j < j'
      · exact c j' hlt (by omega) g3 e
      · obtain ⟨_, _, c'⟩ := slotsGo_inv l 16 0 _ (by simp) h'.2 j' (by omega) (by omega) g3
        exact c' j (by omega) (by omega) h0 e.symm
  · rintro ⟨hl, h⟩
    unfold slotsOk
    rw [Bool.and_eq_true, decide_eq_true_eq]
    refine ⟨hl, slotsGo_intro l 16 0 _ (by simp) fun j _ hj => ?_⟩
    rcases h j (by omega) with g | ⟨g1, g2⟩
    · exact .inl g
    · refine .inr ⟨g1, ?_, fun j' q1 q2 q3 => g2 j' (by omega) (by omega) q3⟩
      rw [List.getD_eq_getElem?_getD, List.getElem?_replicate]
      split <;> rfl
/-- What lies at a key: 0, or the value and one more. -/
def mv (l : List Int) (key : Int) : Int := bif decide (atOf l key < 0) then 0 else (l.getD (atOf l key).toNat 0 - 1).tmod 65536 + 1
theorem at_some {l : List Int} (h : SlOk l) {j : Nat} (hj : j < 16) (h0 : l.getD j 0 ≠ 0) {key : Int} (hk : slotKey (l.getD j 0) = key) : atOf l key = (j : Int) := by
  have h1 : Ok1 (l.getD j 0) j := by
    rcases h.2 j hj with g | g
    · exact absurd g h0
    · exact g.1
  unfold atOf
  cases e : atGo l key 16 0 with
  | none => exact absurd hk (atGo_none l key 16 0 e j (by omega) (by omega) h1.1)
  | some q =>
    obtain ⟨_, b, c, d⟩ := atGo_some l key 16 0 q e
    have : q = j := by
      by_cases hq : q = j
      · exact hq
      · rcases h.2 j hj with g | g
        · exact absurd g h0
        · exact absurd (d.trans hk.symm) (g.2 q (by omega) hq (by omega))
    subst this; rfl
theorem at_none {l : List Int} {key : Int} (h : ∀ j, j < 16 → 1 ≤ l.getD j 0 → slotKey (l.getD j 0) ≠ key) : atOf l key = -1 := by
  unfold atOf
  cases e : atGo l key 16 0 with
  | none => rfl
  | some q =>
    obtain ⟨_, b, c, d⟩ := atGo_some l key 16 0 q e
    exact absurd d (h q (by omega) c)
theorem mv_some {l : List Int} (h : SlOk l) {j : Nat} (hj : j < 16) (h0 : l.getD j 0 ≠ 0) {key : Int} (hk : slotKey (l.getD j 0) = key) : mv l key = (l.getD j 0 - 1).tmod 65536 + 1 := by
  unfold mv
  rw [at_some h hj h0 hk, decide_eq_false (by omega), cond_false, Int.toNat_natCast]
theorem mv_none {l : List Int} {key : Int} (h : ∀ j, j < 16 → 1 ≤ l.getD j 0 → slotKey (l.getD j 0) ≠ key) : mv l key = 0 := by
  unfold mv
  rw [at_none h]; rfl
theorem mv_range {l : List Int} (h : SlOk l) (key : Int) : 0 ≤ mv l key ∧ mv l key ≤ 65536 := by
  unfold mv
  rcases atOf_cases (slotsOk_iff.2 h) key with e | ⟨j, e, j1, j2, j3, j4⟩
  · rw [e, decide_eq_true (by omega), cond_true]; omega
  · rw [e, decide_eq_false (by omega), cond_false, Int.toNat_natCast, Int.tmod_eq_emod_of_nonneg (by omega)]
    omega
theorem set_get {l : List Int} {p j : Nat} {x : Int} (hl : p < l.length) : (l.set p x).getD j 0 = if j = p then x else l.getD j 0 := by
  rw [List.getD_eq_getElem?_getD, List.getElem?_set]
  by_cases e : p = j
  · subst e; simp [hl]
  · rw [if_neg e, if_neg (fun h => e h.symm), List.getD_eq_getElem?_getD]
theorem word_key {k v : Int} (hk : 0 ≤ k ∧ k ≤ 7) (hv : 0 ≤ v ∧ v ≤ 65535) : slotKey (1 + k * 65536 + v) = k ∧ (1 + k * 65536 + v - 1).tmod 65536 = v ∧ 1 ≤ 1 + k * 65536 + v ∧ 1 + k * 65536 + v ≤ 524288 := by
  unfold slotKey
  rw [Int.tdiv_eq_ediv_of_nonneg (by omega), Int.tmod_eq_emod_of_nonneg (by omega)]
  omega
/-- A slot is written. -/
theorem set_spec {l : List Int} (h : SlOk l) {p : Nat} (hp : p < 16) {k v x : Int} (hk : 0 ≤ k ∧ k ≤ 7) (hv : 0 ≤ v ∧ v ≤ 65535) (hb : bucket k = (p : Int).tdiv 4)
    (hpk : l.getD p 0 = 0 ∨ slotKey (l.getD p 0) = k) (ho : ∀ j, j < 16 → j ≠ p → l.getD j 0 ≠ 0 → slotKey (l.getD j 0) ≠ k) (hx : x = 0 ∨ x = 1 + k * 65536 + v) :
    SlOk (l.set p x) ∧ ∀ q, mv (l.set p x) q = if q = k then (if x = 0 then 0 else v + 1) else mv l q := by
  obtain ⟨w1, w2, w3, w4⟩ := word_key hk hv
  have hlp : p < l.length := by rw [h.1]; exact hp
  have hok : SlOk (l.set p x) := by
    refine ⟨by rw [List.length_set]; exact h.1, fun j hj => ?_⟩
    rw [set_get hlp]
    by_cases e : j = p
    · subst e
      rw [if_pos rfl]
      rcases hx with hx | hx
      · exact .inl hx
      · refine .inr ⟨⟨by omega, by omega, by rw [hx, w1]; exact hb⟩, fun j' g1 g2 g3 => ?_⟩
        rw [set_get hlp, if_neg g2] at g3 ⊢
        rw [hx, w1]
        exact ho j' g1 g2 g3
    · rw [if_neg e]
      rcases h.2 j hj with g | ⟨g1, g2⟩
      · exact .inl g
      · refine .inr ⟨g1, fun j' q1 q2 q3 => ?_⟩
        rw [set_get hlp] at q3 ⊢
        by_cases e' : j' = p
        · rw [if_pos e'] at q3 ⊢
          rcases hx with hx | hx
          · exact absurd hx q3
          · rw [hx, w1]
            exact (ho j hj e (by have := g1.1; omega)).symm
        · rw [if_neg e'] at q3 ⊢
          exact g2 j' q1 q2 q3
  refine ⟨hok, fun q => ?_⟩
  by_cases e : q = k
  · subst e
    rw [if_pos rfl]
    rcases hx with hx | hx
    · rw [if_pos hx]
      refine mv_none fun j hj g => ?_
      rw [set_get hlp] at g ⊢
      by_cases e : j = p
      · rw [if_pos e] at g; omega
      · rw [if_neg e] at g ⊢
        exact ho j hj e (by omega)
    · rw [if_neg (by omega)]
      have e1 : (l.set p x).getD p 0 = x := by rw [set_get hlp, if_pos rfl]
      rw [mv_some hok hp (by rw [e1]; omega) (by rw [e1, hx]; exact w1), e1, hx, w2]
  · rw [if_neg e]
    rcases atOf_cases (slotsOk_iff.2 h) q with ea | ⟨j, ea, j1, j2, j3, j4⟩
    · have hn : ∀ j, j < 16 → 1 ≤ l.getD j 0 → slotKey (l.getD j 0) ≠ q := fun j hj g eq => by
        rw [at_some h hj (by omega) eq] at ea; omega
      rw [mv_none hn]
      refine mv_none fun j hj g => ?_
      rw [set_get hlp] at g ⊢
      by_cases e' : j = p
      · rw [if_pos e'] at g ⊢
        rcases hx with hx | hx
        · omega
        · rw [hx, w1]; exact fun e'' => e e''.symm
      · rw [if_neg e'] at g ⊢
        exact hn j hj g
    · have hjp : j ≠ p := by
        rintro rfl
        rcases hpk with g | g
        · omega
        · exact e (j4.symm.trans g)
      have e1 : (l.set p x).getD j 0 = l.getD j 0 := by rw [set_get hlp, if_neg hjp]
      rw [mv_some hok j1 (by rw [e1]; omega) (by rw [e1]; exact j4), e1, mv_some h j1 (by omega) j4]
theorem zeroAt_le (l : List Int) : ∀ (m i j : Nat), i ≤ j → j < i + m → l.getD j 0 = 0 → zeroAt l m i ≤ j
  | 0, i, j, h1, h2, _ => by omega
  | m + 1, i, j, h1, h2, h3 => by
    by_cases e : l.getD i 0 = 0
    · have hz : zeroAt l (m + 1) i = i := by unfold zeroAt; simp only [e, decide_true, cond_true]
      rw [hz]; exact h1
    · have hz : zeroAt l (m + 1) i = zeroAt l m (i + 1) := by conv => lhs; unfold zeroAt; simp only [e, decide_false, cond_false]
      rw [hz]
      have : i ≠ j := fun e' => by subst e'; exact e h3
      exact zeroAt_le l m (i + 1) j (by omega) (by omega) h3
theorem keyOk_of {k : Int} (h : 0 ≤ k ∧ k ≤ 7) : keyOk k = true := by unfold keyOk; rw [decide_eq_true h.1, cond_true]; exact decide_eq_true h.2
theorem valOk_of {k : Int} (h : 0 ≤ k ∧ k ≤ 65535) : valOk k = true := by unfold valOk; rw [decide_eq_true h.1, cond_true]; exact decide_eq_true h.2
theorem at_absent {l : List Int} (h : SlOk l) {k : Int} (e : atOf l k = -1) : ∀ j, j < 16 → l.getD j 0 ≠ 0 → slotKey (l.getD j 0) ≠ k := fun j hj g eq => by
  rw [at_some h hj g eq] at e; omega
theorem put_spec {l : List Int} (h : SlOk l) {k v : Int} (hk : 0 ≤ k ∧ k ≤ 7) (hv : 0 ≤ v ∧ v ≤ 65535) : ∃ l', slotPut l k v = (l', mv l k, true) ∧ SlOk l' ∧ ∀ q, mv l' q = if q = k then v + 1 else mv l q := by
  obtain ⟨_, _, w3, _⟩ := word_key hk hv
  have hwne : ¬ (1 + k * 65536 + v = 0) := by omega
  unfold slotPut
  rw [slotsOk_iff.2 h, keyOk_of hk, valOk_of hv]
  simp only [cond_true]
  rcases atOf_cases (slotsOk_iff.2 h) k with ea | ⟨j, ea, j1, j2, j3, j4⟩
  · obtain ⟨b1, b2⟩ := bucket_range (keyOk_of hk)
    obtain ⟨q, q1, q2, q3⟩ := free_slot (slotsOk_iff.2 h) hk.1 hk.2 (by omega)
    have hex : ∃ j, (4 * bucket k).toNat ≤ j ∧ j < (4 * bucket k).toNat + (16 - (4 * bucket k).toNat) ∧ l.getD j 0 = 0 := ⟨q, by omega, by omega, q3⟩
    obtain ⟨z1, z2, z3⟩ := zeroAt_lt l (16 - (4 * bucket k).toNat) (4 * bucket k).toNat hex
    have z4 := zeroAt_le l (16 - (4 * bucket k).toNat) (4 * bucket k).toNat q (by omega) (by omega) q3
    generalize zeroAt l (16 - (4 * bucket k).toNat) (4 * bucket k).toNat = z at z1 z2 z3 z4 ⊢
    have hm : mv l k = 0 := by unfold mv; rw [ea]; rfl
    obtain ⟨s1, s2⟩ := set_spec h (p := z) (by omega) (x := 1 + k * 65536 + v) hk hv (by rw [Int.tdiv_eq_ediv_of_nonneg (by omega)]; omega) (.inl z3) (fun j hj _ g => at_absent h ea j hj g) (.inr rfl)
    refine ⟨_, ?_, s1, fun q => ?_⟩
    · rw [ea, hm]; rfl
    · rw [s2 q, if_neg hwne]
  · have hm : mv l k = (l.getD j 0 - 1).tmod 65536 + 1 := mv_some h j1 (by omega) j4
    have hb : bucket k = (j : Int).tdiv 4 := by
      rcases h.2 j j1 with g | g
      · omega
      · rw [← j4]; exact g.1.2.2
    obtain ⟨s1, s2⟩ := set_spec h (p := j) j1 (x := 1 + k * 65536 + v) hk hv hb (.inr j4) (fun i hi hne g e => by
      rcases h.2 j j1 with g' | g'
      · omega
      · exact g'.2 i hi hne g (e.trans j4.symm)) (.inr rfl)
    refine ⟨_, ?_, s1, fun q => ?_⟩
    · rw [ea, hm, decide_eq_false (by omega), cond_false, Int.toNat_natCast]
    · rw [s2 q, if_neg hwne]
theorem drop_spec {l : List Int} (h : SlOk l) {k : Int} (hk : 0 ≤ k ∧ k ≤ 7) : ∃ l', slotDrop l k = (l', mv l k, true) ∧ SlOk l' ∧ ∀ q, mv l' q = if q = k then 0 else mv l q := by
  unfold slotDrop
  rw [slotsOk_iff.2 h, keyOk_of hk]
  simp only [cond_true]
  rcases atOf_cases (slotsOk_iff.2 h) k with ea | ⟨j, ea, j1, j2, j3, j4⟩
  · have hm : mv l k = 0 := by unfold mv; rw [ea]; rfl
    refine ⟨l, ?_, h, fun q => ?_⟩
    · rw [ea, hm]; rfl
    · by_cases e : q = k
      · rw [if_pos e, e, hm]
      · rw [if_neg e]
  · have hm : mv l k = (l.getD j 0 - 1).tmod 65536 + 1 := mv_some h j1 (by omega) j4
    have hb : bucket k = (j : Int).tdiv 4 := by
      rcases h.2 j j1 with g | g
      · omega
      · rw [← j4]; exact g.1.2.2
    obtain ⟨s1, s2⟩ := set_spec h (p := j) j1 (x := 0) (v := 0) hk (by omega) hb (.inr j4) (fun i hi hne g e => by
      rcases h.2 j j1 with g' | g'
      · omega
      · exact g'.2 i hi hne g (e.trans j4.symm)) (.inl rfl)
    refine ⟨_, ?_, s1, fun q => ?_⟩
    · rw [ea, hm, decide_eq_false (by omega), cond_false, Int.toNat_natCast, tmod_wrap j2 j3]
    · rw [s2 q, if_pos rfl]
theorem get_spec {l : List Int} (h : SlOk l) {k : Int} (hk : 0 ≤ k ∧ k ≤ 7) : slotGet l k = bif mv l k == 0 then (0, false) else (mv l k - 1, true) := by
  unfold slotGet
  rw [slotsOk_iff.2 h, keyOk_of hk]
  simp only [cond_true]
  rcases atOf_cases (slotsOk_iff.2 h) k with ea | ⟨j, ea, j1, j2, j3, j4⟩
  · have hm : mv l k = 0 := by unfold mv; rw [ea]; rfl
    rw [ea, hm]; rfl
  · have hm : mv l k = (l.getD j 0 - 1).tmod 65536 + 1 := mv_some h j1 (by omega) j4
    have hp : 0 ≤ (l.getD j 0 - 1).tmod 65536 := by rw [Int.tmod_eq_emod_of_nonneg (by omega)]; omega
    have e : (mv l k == 0) = false := beq_eq_false_iff_ne.2 (by omega)
    rw [ea, e, decide_eq_false (by omega), cond_false, cond_false, Int.toNat_natCast, hm]
    rw [Int.add_sub_cancel]
theorem mapGo_spec {l : List Int} (h : SlOk l) : ∀ (m i : Nat) (o : List Int), i + m = 8 → o.length = i → (∀ q, q < i → o.getD q 0 = mv l (q : Int)) → (mapGo l m (i : Int) o).length = 8 ∧ ∀ q, q < 8 → (mapGo l m (i : Int) o).getD q 0 = mv l (q : Int)
  | 0, i, o, hi, ho, hq => ⟨by unfold mapGo; omega, fun q h => by unfold mapGo; exact hq q (by omega)⟩
  | m + 1, i, o, hi, ho, hq => by
    unfold mapGo
    have e : (bif (slotGet l (i : Int)).2 then IntKind.i64.wrap ((slotGet l (i : Int)).1 + 1) else 0) = mv l (i : Int) := by
      rw [get_spec h (by omega)]
      have hr := mv_range h (i : Int)
      cases hz : mv l (i : Int) == 0
      · simp only [cond_false, cond_true, Int.sub_add_cancel]
        exact i64_wrap (by omega) (by omega)
      · simp only [cond_true, cond_false]
        exact (eq_of_beq hz).symm
    rw [e, show (i : Int) + 1 = ((i + 1 : Nat) : Int) by omega]
    refine mapGo_spec h m (i + 1) _ (by omega) (by simp; omega) fun q hq' => ?_
    by_cases e : q < i
    · rw [List.getD_eq_getElem?_getD, List.getElem?_append_left (by omega), ← List.getD_eq_getElem?_getD]
      exact hq q e
    · have : q = i := by omega
      subst this
      rw [List.getD_eq_getElem?_getD, List.getElem?_append_right (by omega), ho, Nat.sub_self]; rfl
theorem mapOf_spec {l : List Int} (h : SlOk l) : (mapOf l).length = 8 ∧ ∀ q, q < 8 → (mapOf l).getD q 0 = mv l (q : Int) := by
  unfold mapOf
  rw [slotsOk_iff.2 h, cond_true]
  exact mapGo_spec h 8 0 [] (by omega) rfl (fun q h => by omega)
theorem mapOf_congr {l l' : List Int} (h : SlOk l) (h' : SlOk l') (e : ∀ q : Int, 0 ≤ q → q ≤ 7 → mv l q = mv l' q) : mapOf l = mapOf l' := by
  obtain ⟨a1, a2⟩ := mapOf_spec h
  obtain ⟨b1, b2⟩ := mapOf_spec h'
  apply List.ext_getElem (by rw [a1, b1])
  intro i h1 h2
  have e1 := a2 i (by omega)
  have e2 := b2 i (by omega)
  rw [List.getD_eq_getElem?_getD, List.getElem?_eq_getElem h1] at e1
  rw [List.getD_eq_getElem?_getD, List.getElem?_eq_getElem h2] at e2
  simp only [Option.getD_some] at e1 e2
  rw [e1, e2]
  exact e i (by omega) (by omega)
theorem SlOk_new : SlOk (List.replicate 16 0) := ⟨rfl, fun j hj => .inl (by rw [List.getD_eq_getElem?_getD, List.getElem?_replicate]; split <;> rfl)⟩
theorem mv_new (q : Int) : mv (List.replicate 16 0) q = 0 := mv_none fun j hj g => by
  rw [List.getD_eq_getElem?_getD, List.getElem?_replicate] at g
  split at g <;> simp at g
theorem mapIn_intro (m : List Int) : ∀ (n i : Nat), (∀ j, i ≤ j → j < i + n → 0 ≤ m.getD j 0 ∧ m.getD j 0 ≤ 65536) → mapIn m n i = true
  | 0, _, _ => rfl
  | n + 1, i, h => by
    unfold mapIn
    rw [decide_eq_true (h i (Nat.le_refl _) (by omega)), cond_true]
    exact mapIn_intro m n (i + 1) fun j h1 h2 => h j (by omega) (by omega)
theorem fromGo_spec {m : List Int} (hm : ∀ j, j < 8 → 0 ≤ m.getD j 0 ∧ m.getD j 0 ≤ 65536) : ∀ (n i : Nat) (o : List Int), i + n = 8 → SlOk o → (∀ q : Nat, q < 8 → mv o (q : Int) = if q < i then m.getD q 0 else 0) →
    SlOk (fromGo m n i o) ∧ ∀ q : Nat, q < 8 → mv (fromGo m n i o) (q : Int) = m.getD q 0
  | 0, i, o, hi, ho, hq => ⟨ho, fun q h => by unfold fromGo; rw [hq q h, if_pos (by omega)]⟩
  | n + 1, i, o, hi, ho, hq => by
    have hmi := hm i (by omega)
    unfold fromGo
    by_cases hz : 0 < m.getD i 0
    · rw [decide_eq_true hz, cond_true]
      obtain ⟨l', p1, p2, p3⟩ := put_spec ho (k := (i : Int)) (v := m.getD i 0 - 1) (by omega) (by omega)
      rw [p1]
      refine fromGo_spec hm n (i + 1) l' (by omega) p2 fun q hq' => ?_
      rw [p3]
      by_cases e : q = i
      · subst e; rw [if_pos rfl, if_pos (by omega)]; omega
      · rw [if_neg (by omega), hq q hq']
        by_cases h' : q < i
        · rw [if_pos h', if_pos (by omega)]
        · rw [if_neg h', if_neg (by omega)]
    · rw [decide_eq_false hz, cond_false]
      refine fromGo_spec hm n (i + 1) o (by omega) ho fun q hq' => ?_
      rw [hq q hq']
      by_cases e : q = i
      · subst e; rw [if_neg (by omega), if_pos (by omega)]; omega
      · by_cases h' : q < i
        · rw [if_pos h', if_pos (by omega)]
        · rw [if_neg h', if_neg (by omega)]
theorem from_spec {m : List Int} (h8 : m.length = 8) (hm : ∀ j, j < 8 → 0 ≤ m.getD j 0 ∧ m.getD j 0 ≤ 65536) : SlOk (slotsFrom m) ∧ ∀ q : Nat, q < 8 → mv (slotsFrom m) (q : Int) = m.getD q 0 := by
  unfold slotsFrom
  rw [decide_eq_true h8, cond_true, mapIn_intro m 8 0 (fun j _ hj => hm j (by omega)), cond_true]
  exact fromGo_spec hm 8 0 _ (by omega) SlOk_new fun q hq => by rw [mv_new, if_neg (by omega)]
end X
