/- Models of the functions, or plain laws about them; each theorem states its own conditions. -/
import Derived.Test.YtlcgddghildedaaNSA
import Derived.Test.YtlcgddghildedaaNL2
set_option linter.unusedVariables false
set_option linter.unusedSimpArgs false
open Go.Proofs
namespace X
open PM Go
/-! ## The state at a stamp, cell by cell -/
theorem foldN_snoc {α : Type} (g : Nat → α → α) : ∀ (m i : Nat) (o : α), foldN g (m + 1) i o = g (i + m) (foldN g m i o)
  | 0, i, o => rfl
  | m + 1, i, o => by
    show foldN g (m + 1) (i + 1) (g i o) = _
    rw [foldN_snoc g m (i + 1) (g i o), show i + 1 + m = i + (m + 1) by omega]; rfl
theorem foldF_snoc {α : Type} (g : Nat → α → α) : ∀ (m i : Nat) (o : α), foldF g (m + 1) i o = g (i + m) (foldF g m i o)
  | 0, i, o => rfl
  | m + 1, i, o => by
    show foldF g (m + 1) (i + 1) (g i o) = _
    rw [foldF_snoc g m (i + 1) (g i o), show i + 1 + m = i + (m + 1) by omega]; rfl
theorem foldN_add {α : Type} (g : Nat → α → α) : ∀ (m r i : Nat) (o : α), foldN g (m + r) i o = foldN g r (i + m) (foldN g m i o)
  | 0, r, i, o => by rw [Nat.zero_add]; rfl
  | m + 1, r, i, o => by
    rw [show m + 1 + r = (m + r) + 1 by omega]
    show foldN g (m + r) (i + 1) (g i o) = _
    rw [foldN_add g m r (i + 1) (g i o), show i + 1 + m = i + (m + 1) by omega]; rfl
theorem vals_iff {v : List Int} : valsB v 8 = true ↔ v.length = 8 ∧ ∀ i, i < 8 → 0 ≤ v.getD i 0 ∧ v.getD i 0 ≤ 65535 := by
  have hg : ∀ i : Nat, std.iget v (i : Int) = v.getD i 0 := fun i => by rw [std_iget, Int.toNat_natCast]
  unfold valsB
  rw [Bool.and_eq_true, allB_iff]
  constructor
  · rintro ⟨h1, h2⟩
    rw [std_eq, std_ilen, beq_iff_eq] at h2
    have hl : v.length = 8 := by omega
    refine ⟨hl, fun i hi => ?_⟩
    have := h1 i (by omega)
    rw [hg] at this
    exact of_decide_eq_true this
  · rintro ⟨h1, h2⟩
    refine ⟨fun i hi => ?_, ?_⟩
    · rw [hg]; exact decide_eq_true (h2 i (by omega))
    · rw [std_eq, std_ilen, beq_iff_eq]; omega
theorem row_in {l : List (List Int)} (h : rowsOk l = true) {i : Nat} (hi : i < l.length) : (0 ≤ std.vget l (i : Int) 0 ∧ std.vget l (i : Int) 0 ≤ 7) ∧ (0 ≤ std.vget l (i : Int) 1 ∧ std.vget l (i : Int) 1 ≤ 65535) := by
  unfold rowsOk at h
  rw [Bool.and_eq_true] at h
  have := allB_at h.2 hi
  unfold rowOk at this
  rw [Bool.and_eq_true] at this
  exact ⟨of_decide_eq_true this.1, of_decide_eq_true this.2⟩
theorem ov_get {l : List (List Int)} (h : rowsOk l = true) {o : List Int} (ho : o.length = 8) {c : Nat} (hc : c < 8) : ∀ m, m ≤ l.length → (foldN (ovG l) m 0 o).length = 8 ∧ (foldN (ovG l) m 0 o).getD c 0 = (lastO l (c : Int) m).getD (o.getD c 0)
  | 0, _ => ⟨ho, rfl⟩
  | m + 1, hm => by
    obtain ⟨h1, h2⟩ := ov_get h ho hc m (by omega)
    rw [foldN_snoc, Nat.zero_add]
    refine ⟨(ovG_len l m _).trans h1, ?_⟩
    have hr := row_in h (i := m) (by omega)
    generalize foldN (ovG l) m 0 o = q at h1 h2
    unfold ovG lastO
    rw [std_iset, std_eq]
    generalize std.vget l (m : Int) 0 = x at hr
    generalize std.vget l (m : Int) 1 = y
    by_cases e : x = (c : Int)
    · subst e
      rw [show (((c : Int)) == (c : Int)) = true by simp, bt, Int.toNat_natCast]
      simp [List.getD_eq_getElem?_getD, List.getElem?_set, h1, hc]
    · have : (x == (c : Int)) = false := by simpa using e
      rw [this, bf, ← h2]
      have hne : x.toNat ≠ c := fun h => e (by omega)
      simp [List.getD_eq_getElem?_getD, List.getElem?_set, hne]
theorem lastO_in {l : List (List Int)} (h : rowsOk l = true) {c : Int} : ∀ {m : Nat} {x : Int}, m ≤ l.length → lastO l c m = some x → 0 ≤ x ∧ x ≤ 65535
  | 0, x, _, hx => by cases hx
  | m + 1, x, hm, hx => by
    unfold lastO at hx
    cases he : std.eq (std.vget l (m : Int) 0) c
    · rw [he, bf] at hx; exact lastO_in h (by omega) hx
    · rw [he, bt] at hx; cases hx; exact (row_in h (by omega)).2
theorem ovL_get {v : List Int} {l : List (List Int)} (hv : valsB v 8 = true) (h : rowsOk l = true) : valsB (ovL v l) 8 = true ∧ ∀ c, c < 8 → (ovL v l).getD c 0 = (lastO l (c : Int) l.length).getD (v.getD c 0) := by
  obtain ⟨h8, hr⟩ := vals_iff.1 hv
  have e : ovL v l = foldN (ovG l) l.length 0 v := by unfold ovL; rw [hv, h]; rfl
  rw [e]
  have g : ∀ c, c < 8 → (foldN (ovG l) l.length 0 v).getD c 0 = (lastO l (c : Int) l.length).getD (v.getD c 0) := fun c hc => (ov_get h h8 hc l.length (Nat.le_refl _)).2
  refine ⟨vals_iff.2 ⟨(ov_get h h8 (c := 0) (by omega) l.length (Nat.le_refl _)).1, fun i hi => ?_⟩, g⟩
  rw [g i hi]
  cases hx : lastO l (i : Int) l.length with
  | none => exact hr i hi
  | some x => exact lastO_in h (Nat.le_refl _) hx

section
variable {a : List (List C)} {v : List Int}
def sgS (a : List (List C)) (i : Nat) : Int := (stS a).getD i 0
def putS (a : List (List C)) (i : Nat) : List (List Int) := std.rsv 2 (srtR a) (i : Int) 2
def putA (a : List (List C)) (k : Nat) : List (List Int) := std.rsv 2 a (k : Int) 2
theorem at_S (h : histB a = true) {i : Nat} (hi : i < a.length) : ∃ q, q < a.length ∧ stA a q = sgS a i ∧ putS a i = putA a q := by
  obtain ⟨q, h1, h2, _, h4⟩ := srtR_at h hi
  exact ⟨q, h1, h2, h4⟩
theorem put_ok (h : histB a = true) {k : Nat} (hk : k < a.length) : rowsOk (putA a k) = true := (hist_at h hk).2.1
theorem putS_ok (h : histB a = true) {i : Nat} (hi : i < a.length) : rowsOk (putS a i) = true := by
  obtain ⟨q, h1, _, h3⟩ := at_S h hi
  rw [h3]; exact put_ok h h1
theorem sg_pos (h : histB a = true) {i : Nat} (hi : i < a.length) : 1 ≤ sgS a i ∧ sgS a i ≤ 1000000 := by
  obtain ⟨q, h1, h2, _⟩ := at_S h hi
  rw [← h2]; exact (hist_at h h1).1
theorem saG_at (h : histB a = true) {i : Nat} (hi : i < a.length) (n : Int) (o : List Int) : saG a n i o = bif decide (sgS a i ≤ n) then ovL o (putS a i) else o := by
  obtain ⟨q, _, _, h3, _⟩ := srtR_at h hi
  unfold saG
  rw [h3, std_le]; rfl
def X (a : List (List C)) (v : List Int) (n : Int) (m : Nat) : List Int := foldN (saG a n) m 0 v
theorem X_vals (h : histB a = true) (hv : valsB v 8 = true) (n : Int) : ∀ m, m ≤ a.length → valsB (X a v n m) 8 = true
  | 0, _ => hv
  | m + 1, hm => by
    have ih := X_vals h hv n m (by omega)
    unfold X at ih ⊢
    rw [foldN_snoc, Nat.zero_add, saG_at h (by omega)]
    cases decide (sgS a m ≤ n)
    · exact ih
    · exact (ovL_get ih (putS_ok h (by omega))).1
theorem X_succ (h : histB a = true) (hv : valsB v 8 = true) (n : Int) {m : Nat} (hm : m < a.length) {c : Nat} (hc : c < 8) :
    (X a v n (m + 1)).getD c 0 = if sgS a m ≤ n then (lastO (putS a m) (c : Int) (putS a m).length).getD ((X a v n m).getD c 0) else (X a v n m).getD c 0 := by
  have ih := X_vals h hv n m (by omega)
  unfold X at ih ⊢
  rw [foldN_snoc, Nat.zero_add, saG_at h hm]
  by_cases e : sgS a m ≤ n
  · rw [if_pos e, decide_eq_true e, bt]
    exact (ovL_get ih (putS_ok h hm)).2 c hc
  · rw [if_neg e, decide_eq_false e, bf]
theorem saV_X (h : histB a = true) (hv : valsB v 8 = true) (n : Int) : saV v a n = X a v n a.length := by
  unfold saV X
  rw [h, hv]; rfl
/-- What a cell holds after the first m rows. -/
theorem X_last (h : histB a = true) (hv : valsB v 8 = true) (n : Int) {c : Nat} (hc : c < 8) : ∀ m, m ≤ a.length →
    ((X a v n m).getD c 0 = v.getD c 0 ∧ ∀ i, i < m → sgS a i ≤ n → lastO (putS a i) (c : Int) (putS a i).length = none) ∨
    ∃ i, i < m ∧ sgS a i ≤ n ∧ lastO (putS a i) (c : Int) (putS a i).length = some ((X a v n m).getD c 0) ∧ ∀ j, i < j → j < m → sgS a j ≤ n → lastO (putS a j) (c : Int) (putS a j).length = none
  | 0, _ => .inl ⟨rfl, fun i hi => by omega⟩
  | m + 1, hm => by
    have ih := X_last h hv n hc m (by omega)
    rw [X_succ h hv n (by omega) hc]
    by_cases e : sgS a m ≤ n
    · rw [if_pos e]
      cases hx : lastO (putS a m) (c : Int) (putS a m).length with
      | some x => exact .inr ⟨m, by omega, e, hx, fun j h1 h2 => by omega⟩
      | none =>
        rw [Option.getD_none]
        rcases ih with ⟨h1, h2⟩ | ⟨i, h1, h2, h3, h4⟩
        · refine .inl ⟨h1, fun i hi hs => ?_⟩
          by_cases hi' : i < m
          · exact h2 i hi' hs
          · obtain rfl : i = m := by omega
            exact hx
        · refine .inr ⟨i, by omega, h2, h3, fun j hj1 hj2 hs => ?_⟩
          by_cases hj' : j < m
          · exact h4 j hj1 hj' hs
          · obtain rfl : j = m := by omega
            exact hx
    · rw [if_neg e]
      rcases ih with ⟨h1, h2⟩ | ⟨i, h1, h2, h3, h4⟩
      · refine .inl ⟨h1, fun i hi hs => ?_⟩
        by_cases hi' : i < m
        · exact h2 i hi' hs
        · obtain rfl : i = m := by omega
          exact absurd hs e
      · refine .inr ⟨i, by omega, h2, h3, fun j hj1 hj2 hs => ?_⟩
        by_cases hj' : j < m
        · exact h4 j hj1 hj' hs
        · obtain rfl : j = m := by omega
          exact absurd hs e
theorem lastV_at {l : List (List Int)} (h : rowsOk l = true) (c : Int) : lastV l c = match lastO l c l.length with | some x => (x, true) | none => (0, false) := by
  unfold lastV; rw [h]; rfl
/-- The last writer: the greatest stamp. -/
theorem lw_spec (h : histB a = true) (cell n : Int) : ∀ m, m ≤ a.length →
    (∀ q, q < m → (lastV (putA a q) cell).2 = true → stA a q ≤ n → stA a q ≤ foldF (lwF a cell n) m 0 0) ∧
    (foldF (lwF a cell n) m 0 0 = 0 ∨ ∃ q, q < m ∧ (lastV (putA a q) cell).2 = true ∧ stA a q ≤ n ∧ stA a q = foldF (lwF a cell n) m 0 0) ∧ 0 ≤ foldF (lwF a cell n) m 0 0
  | 0, _ => ⟨fun q hq => by omega, .inl rfl, Int.le_refl _⟩
  | m + 1, hm => by
    obtain ⟨h1, h2, h3⟩ := lw_spec h cell n m (by omega)
    have hp := (hist_at h (i := m) (by omega)).1
    rw [foldF_snoc, Nat.zero_add]
    generalize foldF (lwF a cell n) m 0 0 = b at h1 h2 h3
    have e : lwF a cell n m b = bif (lastV (putA a m) cell).2 then (bif std.le (stA a m) n then (bif std.lt b (stA a m) then stA a m else b) else b) else b := rfl
    rw [e, std_le, std_lt]
    by_cases g1 : (lastV (putA a m) cell).2 = true
    · by_cases g2 : stA a m ≤ n
      · by_cases g3 : b < stA a m
        · rw [g1, decide_eq_true g2, decide_eq_true g3, bt, bt, bt]
          refine ⟨fun q hq hl hn => ?_, .inr ⟨m, by omega, g1, g2, rfl⟩, by omega⟩
          by_cases hq' : q < m
          · have := h1 q hq' hl hn; omega
          · obtain rfl : q = m := by omega
            exact Int.le_refl _
        · rw [g1, decide_eq_true g2, decide_eq_false g3, bt, bt, bf]
          refine ⟨fun q hq hl hn => ?_, ?_, h3⟩
          · by_cases hq' : q < m
            · exact h1 q hq' hl hn
            · obtain rfl : q = m := by omega
              omega
          · rcases h2 with h2 | ⟨q, p1, p2⟩
            · exact .inl h2
            · exact .inr ⟨q, by omega, p2⟩
      · rw [g1, decide_eq_false g2, bt, bf]
        refine ⟨fun q hq hl hn => ?_, ?_, h3⟩
        · by_cases hq' : q < m
          · exact h1 q hq' hl hn
          · obtain rfl : q = m := by omega
            exact absurd hn g2
        · rcases h2 with h2 | ⟨q, p1, p2⟩
          · exact .inl h2
          · exact .inr ⟨q, by omega, p2⟩
    · have g1' : (lastV (putA a m) cell).2 = false := by simpa using g1
      rw [g1', bf]
      refine ⟨fun q hq hl hn => ?_, ?_, h3⟩
      · by_cases hq' : q < m
        · exact h1 q hq' hl hn
        · obtain rfl : q = m := by omega
          exact absurd hl g1
      · rcases h2 with h2 | ⟨q, p1, p2⟩
        · exact .inl h2
        · exact .inr ⟨q, by omega, p2⟩
/-- Each cell has the value of its last writer. -/
theorem last_at (h : histB a = true) (hv : valsB v 8 = true) (n : Int) {c : Nat} (hc : c < 8) :
    (lwV a (c : Int) n = 0 → (saV v a n).getD c 0 = v.getD c 0) ∧ ∀ k, k < a.length → stA a k = lwV a (c : Int) n → (lastV (putA a k) (c : Int)).1 = (saV v a n).getD c 0 := by
  have hw : lwV a (c : Int) n = foldF (lwF a (c : Int) n) a.length 0 0 := by unfold lwV; rw [h]; rfl
  obtain ⟨w1, w2, w3⟩ := lw_spec h (c : Int) n a.length (Nat.le_refl _)
  rw [← hw] at w1 w2 w3
  rw [saV_X h hv]
  have has : ∀ q, q < a.length → ∀ {x : Int}, lastO (putA a q) (c : Int) (putA a q).length = some x → lastV (putA a q) (c : Int) = (x, true) := fun q hq x hx => by rw [lastV_at (put_ok h hq), hx]
  have hno : ∀ q, q < a.length → lastO (putA a q) (c : Int) (putA a q).length = none → lastV (putA a q) (c : Int) = (0, false) := fun q hq hx => by rw [lastV_at (put_ok h hq), hx]
  have one : ∀ {q : Nat}, q < a.length → ∃ j, j < a.length ∧ sgS a j = stA a q ∧ putS a j = putA a q := fun {q} hq => by
    obtain ⟨j, hj, e⟩ := stS_of (a := a) hq
    obtain ⟨q', p1, p2, p3⟩ := at_S h hj
    have : q' = q := hist_inj h p1 hq (p2.trans e)
    subst this
    exact ⟨j, hj, e, p3⟩
  rcases X_last h hv n hc a.length (Nat.le_refl _) with ⟨h1, h2⟩ | ⟨i, h1, h2, h3, h4⟩
  · refine ⟨fun _ => h1, fun k hk hs => ?_⟩
    rcases w2 with w2 | ⟨q, p1, p2, p3, p4⟩
    · have := (hist_at h hk).1; omega
    · obtain ⟨j, j1, j2, j3⟩ := one p1
      have := h2 j j1 (by omega)
      rw [j3] at this
      rw [hno q p1 this] at p2
      cases p2
  · obtain ⟨q, q1, q2, q3⟩ := at_S h h1
    rw [q3] at h3
    have hl := has q q1 h3
    have hge := w1 q q1 (by rw [hl]) (by omega)
    have heq : lwV a (c : Int) n = sgS a i := by
      rcases w2 with w2 | ⟨q', p1, p2, p3, p4⟩
      · have := (hist_at h q1).1; omega
      · obtain ⟨j, j1, j2, j3⟩ := one p1
        rcases Nat.lt_trichotomy i j with hij | hij | hij
        · have := h4 j hij j1 (by omega)
          rw [j3] at this
          rw [hno q' p1 this] at p2
          cases p2
        · subst hij; omega
        · have : sgS a j < sgS a i := stS_lt h hij h1
          omega
    refine ⟨fun h0 => ?_, fun k hk hs => ?_⟩
    · have := (hist_at h q1).1; omega
    · have : k = q := hist_inj h hk q1 (by omega)
      subst this
      rw [hl]
/-- The state at a stamp is the one before it, with what was written then. -/
theorem step_at (h : histB a = true) (hv : valsB v 8 = true) {i k : Nat} (hi : i < a.length) (hk : k < a.length) (e : stA a k = sgS a i) : saV v a (sgS a i) = ovL (saV v a (sgS a i - 1)) (putA a k) := by
  obtain ⟨q, q1, q2, q3⟩ := at_S h hi
  have : k = q := hist_inj h hk q1 (by omega)
  subst this
  have rest : ∀ (n : Int) (m : Nat), m ≤ a.length → (∀ j, m ≤ j → j < a.length → n < sgS a j) → X a v n a.length = X a v n m := by
    intro n m hm hj
    unfold X
    have : a.length = m + (a.length - m) := by omega
    rw [this, foldN_add, Nat.zero_add]
    refine foldN_id (len := a.length) _ m _ (by omega) fun j o h1 h2 => ?_
    rw [saG_at h h2, decide_eq_false (by have := hj j h1 h2; omega), bf]
  have same : X a v (sgS a i) i = X a v (sgS a i - 1) i := by
    unfold X
    refine foldN_congr (len := i) (fun j o hj => ?_) i 0 v (by omega)
    have : sgS a j < sgS a i := stS_lt h hj hi
    rw [saG_at h (by omega), saG_at h (by omega), decide_eq_true (by omega), decide_eq_true (by omega)]
  rw [saV_X h hv, saV_X h hv, rest (sgS a i) (i + 1) (by omega) (fun j h1 h2 => stS_lt h (by omega) h2), rest (sgS a i - 1) i (by omega) (fun j h1 h2 => by
    rcases Nat.lt_or_ge i j with h3 | h3
    · have : sgS a i < sgS a j := stS_lt h h3 h2
      omega
    · obtain rfl : j = i := by omega
      omega), ← same, ← q3]
  unfold X
  rw [foldN_snoc, Nat.zero_add, saG_at h hi, decide_eq_true (Int.le_refl _), bt]
theorem zero_at (h : histB a = true) (hv : valsB v 8 = true) : saV v a 0 = v := by
  rw [saV_X h hv]
  unfold X
  refine foldN_id (len := a.length) _ 0 _ (by omega) fun j o h1 h2 => ?_
  rw [saG_at h h2, decide_eq_false (by have := (sg_pos h h2).1; omega), bf]
theorem saV_len8 (h : histB a = true) (hv : valsB v 8 = true) (n : Int) : (saV v a n).length = 8 := by
  rw [saV_X h hv]; exact (vals_iff.1 (X_vals h hv n _ (Nat.le_refl _))).1
theorem saV_no (h : histB a = false) (n : Int) : saV v a n = [] := by unfold saV; rw [h, Bool.and_false]; rfl
theorem saV_no8 (h : v.length ≠ 8) (n : Int) : saV v a n = [] := by
  unfold saV
  have : valsB v 8 = false := by
    cases hv : valsB v 8
    · rfl
    · exact absurd (vals_iff.1 hv).1 h
  rw [this]; rfl
end
end X
