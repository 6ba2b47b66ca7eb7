/- Models of the functions, or plain laws about them; each theorem states its own conditions. -/
import Derived.Test.YtnkgcegeinemjaaQ8
set_option linter.unusedVariables false
set_option linter.unusedSimpArgs false
open Go.Proofs
namespace X
open PM Go

/-! ## CommitBreak -/
theorem room0v {l : List (List Int)} (h : l.length ≤ 2147483648) : std.room (std.vlen []) (std.vlen l) = true := room_small (a := 0) (by omega)
theorem room0i {l : List Int} (h : l.length ≤ 2147483648) : std.room (std.ilen []) (std.ilen l) = true := room_small (a := 0) (by omega)
theorem vapp0 (l : List (List Int)) : std.vapp [] l = l := rfl
theorem iapp0 (l : List Int) : std.iapp [] l = l := rfl
theorem copyC_val (a b p t d : Int) (l : List (List Int)) (rd : List Int) (h1 : l.length ≤ 2147483648) (h2 : rd.length ≤ 2147483648) (k : Int → Int → Int → Int → Int → List (List Int) → List Int → R) :
    spec_l10Copy std a b p t d l rd k = k a b p t d l rd ∧ impl_copyCommit std a b p t d l rd k = k a b p t d l rd := by
  simp only [spec_l10Copy, spec_l10Copy_f, impl_copyCommit, impl_copyCommit_f, impl_copyRows, impl_copyRows_f, impl_copyInts, impl_copyInts_f, room0v h1, room0i h2, cond_true, vapp0, iapp0, and_self]
def Cm.back (c : Cm) (n : Int) : Cm := bif n == 0 then { c with ph := 8, pos := 0 } else { c with ph := 7, pos := n - 1 }
def commitBreak (c : Cm) : Cm × Bool :=
  bif commitOk c.who c.rv c.ph c.pos c.wv c.puts c.reads then
    (bif c.ph == 1 then (c.back c.pos, true) else bif decide (c.ph ≤ 3) then (c.back c.puts.length, true) else (c, false))
  else (c, false)
theorem commitOk_spec {who rv p t wv : Int} {l : List (List Int)} {rd : List Int} (h : commitOk who rv p t wv l rd = true) :
    (1 ≤ who ∧ who ≤ 99) ∧ (0 ≤ rv ∧ rv ≤ 1000000) ∧ (0 ≤ wv ∧ wv ≤ 1000000) ∧ (1 ≤ p ∧ p ≤ 8) ∧ rowsOk l = true ∧ risingB rd = true ∧ allB (upOk l) (l.length - 1) = true ∧ (0 ≤ t ∧ t ≤ phaseLen p l rd - 1) := by
  unfold commitOk at h
  simp only [Bool.and_eq_true] at h
  obtain ⟨h1, h2, h3, h4, h5, h6, h7, h8⟩ := h
  exact ⟨of_decide_eq_true h1, of_decide_eq_true h2, of_decide_eq_true h3, of_decide_eq_true h4, h5, h6, h7, of_decide_eq_true h8⟩
theorem CommitBreak_val (c : Cm) (h1 : c.puts.length ≤ 2147483648) (h2 : c.reads.length ≤ 2147483648) (k : Int → Int → Int → Int → Int → List (List Int) → List Int → Bool → R) :
    spec_CommitBreak std c.who c.rv c.ph c.pos c.wv c.puts c.reads k = (commitBreak c).1.k k (commitBreak c).2 ∧ impl_CommitBreak std c.who c.rv c.ph c.pos c.wv c.puts c.reads k = (commitBreak c).1.k k (commitBreak c).2 := by
  obtain ⟨who, rv, p, t, wv, l, rd⟩ := c
  unfold spec_CommitBreak spec_CommitBreak_f impl_CommitBreak impl_CommitBreak_f commitBreak
  simp only at h1 h2 ⊢
  simp only [(copyC_val _ _ _ _ _ l rd h1 h2 _).1, (copyC_val _ _ _ _ _ l rd h1 h2 _).2, (CommitOk_val _ _ _ _ _ l rd h1 h2 _).1, (CommitOk_val _ _ _ _ _ l rd h1 h2 _).2, bif_not]
  cases hok : commitOk who rv p t wv l rd
  · exact ⟨rfl, rfl⟩
  · obtain ⟨_, _, _, h4, _, _, _, h8⟩ := commitOk_spec hok
    have hp := phaseLen_le p l rd
    have w1 : std.sub .i64 t 1 = t - 1 := by rw [std_sub]; exact i64_wrap (by omega) (by omega)
    have w2 : std.sub .i64 (l.length : Int) 1 = (l.length : Int) - 1 := by rw [std_sub]; exact i64_wrap (by omega) (by omega)
    simp only [cond_true, std_vlen, w1, w2, std_eq, Cm.back]
    by_cases e1 : p = 1
    · subst e1
      have e3 : std.lt 3 1 = false := rfl
      simp only [e3, beq_self_eq_true, cond_true, cond_false]
      cases (t == 0) <;> exact ⟨rfl, rfl⟩
    · have d1 : (p == 1) = false := beq_eq_false_iff_ne.2 e1
      by_cases e2 : p = 2
      · subst e2
        have e3 : std.lt 3 2 = false := rfl
        have e4 : decide ((2 : Int) ≤ 3) = true := rfl
        simp only [e3, d1, e4, beq_self_eq_true, cond_true, cond_false]
        cases ((l.length : Int) == 0) <;> exact ⟨rfl, rfl⟩
      · have d2 : (p == 2) = false := beq_eq_false_iff_ne.2 e2
        by_cases e3 : p = 3
        · subst e3
          have e3 : std.lt 3 3 = false := rfl
          have e4 : decide ((3 : Int) ≤ 3) = true := rfl
          simp only [e3, d1, d2, e4, beq_self_eq_true, cond_true, cond_false]
          cases ((l.length : Int) == 0) <;> exact ⟨rfl, rfl⟩
        · have d3 : (p == 3) = false := beq_eq_false_iff_ne.2 e3
          have e4 : std.lt 3 p = true := by rw [std_lt]; exact decide_eq_true (by omega)
          have e5 : decide (p ≤ 3) = false := decide_eq_false (by omega)
          simp only [d1, d2, d3, e4, e5, cond_true, cond_false]
          exact ⟨rfl, rfl⟩
theorem back_small {c : Cm} (h : c.small) (n : Int) : (c.back n).small := by
  unfold Cm.back
  cases (n == 0) <;> exact h
theorem commitBreak_small {c : Cm} (h : c.small) : (commitBreak c).1.small := by
  unfold commitBreak
  cases commitOk c.who c.rv c.ph c.pos c.wv c.puts c.reads
  · exact h
  · cases (c.ph == 1)
    · cases decide (c.ph ≤ 3)
      · exact h
      · exact back_small h _
    · exact back_small h _
theorem CommitBreak_true (a b p t d : Int) (l : List (List Int)) (rd : List Int) (b1 : IntKind.i64.min ≤ a ∧ a ≤ IntKind.i64.max) (b2 : IntKind.i64.min ≤ b ∧ b ≤ IntKind.i64.max) (b3 : IntKind.i64.min ≤ p ∧ p ≤ IntKind.i64.max) (b4 : IntKind.i64.min ≤ t ∧ t ≤ IntKind.i64.max) (b5 : IntKind.i64.min ≤ d ∧ d ≤ IntKind.i64.max)
    (f1 : FitArr cx (.vecs 139 2 l)) (f2 : FitArr cx (.ints 3 .i64 rd)) (k : Bool → R) : laws_FnExactCommitBreak std a b p t d l rd k = k true := by
  unfold laws_FnExactCommitBreak laws_FnExactCommitBreak_f
  by_cases h : l.length + rd.length ≤ 1048576
  · have h1 : l.length ≤ 2147483648 := by omega
    have h2 : rd.length ≤ 2147483648 := by omega
    have hw : ∀ r ∈ l, r.length = 2 := fun r hr => (f1.2 r hr).1
    have h0 : (⟨a, b, p, t, d, l, rd⟩ : Cm).small := ⟨by show l.length ≤ _; omega, by show rd.length ≤ _; omega, hw⟩
    have hs := commitBreak_small h0
    have v := CommitBreak_val ⟨a, b, p, t, d, l, rd⟩ h1 h2
    have m0 := fun k => markCm h0 k
    simp only at v m0
    generalize commitBreak ⟨a, b, p, t, d, l, rd⟩ = cb at v hs
    have e2 : std.lt (1 + 2 * (l.length : Int) + (rd.length : Int)) 0 = false := by rw [std_lt]; exact decide_eq_false (by omega)
    simp only [szCommit_small _ _ _ _ _ l rd h, sz_pos l rd h, cond_false, toCommit_eq _ _ _ _ _ l rd h1 hw h2, (v _).1, (v _).2, Cm.k, eqCm hs, eqCommit1 _ _ _ _ _ l rd h1 h2, m0, e2, beq_self, eq_self, not_true', markCm hs, heldCm hs, posCm]
  · simp only [szCommit_big _ _ _ _ _ l rd h f1.1 f2.1, neg1, cond_true]
end X
