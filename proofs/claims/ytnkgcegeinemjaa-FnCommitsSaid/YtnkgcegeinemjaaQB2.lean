/- Models of the functions, or plain laws about them; each theorem states its own conditions. -/
import Derived.Test.YtnkgcegeinemjaaQB1
import Derived.Test.YtnkgcegeinemjaaQE0
set_option linter.unusedVariables false
set_option linter.unusedSimpArgs false
open Go.Proofs
namespace X
open PM Go

theorem pick_in (b : List Int) (x : Int) {n : Nat} (h : 0 ≤ x ∧ x < n) : std.inb x (n : Int) = true := inb_small h
theorem Any10_dr (b : List Int) (i h : Int) (ha : At b i) : ∃ cl l who rv ph pos wv puts reads i' h', l.length ≤ 8 ∧ Wide 3 l ∧ puts.length ≤ 2000000 ∧ reads.length ≤ 2000000 ∧ At b i' ∧ ∀ k, spec_l10Any std b i h k = k cl l who rv ph pos wv puts reads b i' h' := by
  obtain ⟨cl, l, c, i1, h1, hg, ⟨s1, s2, -⟩, a1, k1⟩ := Some_dr b i h ha
  obtain ⟨who, rv, ph, pos, wv, puts, reads⟩ := c
  simp only at s1 s2 k1
  have l8 : l.length ≤ 8 := Nat.le_of_eq hg.1
  obtain ⟨x, i2, h2, -, a2, k2⟩ := Below_dr b i1 h1 20 a1
  unfold spec_l10Any spec_l10Any_f
  simp only [k1, k2]
  cases std.eq x 0
  · cases std.eq x 1
    · cases std.eq x 2
      · cases std.eq x 3
        · cases std.eq x 4
          · cases std.eq x 5
            · cases std.eq x 6
              · exact ⟨cl, l, who, rv, ph, pos, wv, puts, reads, i2, h2, l8, hg.2, by omega, by omega, a2, fun k => by simp only [bf]⟩
              · exact ⟨cl, l, who, rv, ph, pos, -1, puts, reads, i2, h2, l8, hg.2, by omega, by omega, a2, fun k => by simp only [bf, bt]⟩
            · obtain ⟨c', l', i3, h3, q1, qw, a3, k3⟩ := Any3_dr b i2 h2 a2
              exact ⟨c', l', who, rv, ph, pos, wv, puts, reads, i3, h3, q1, qw, by omega, by omega, a3, fun k => by simp only [bf, bt, k3]⟩
          · have er : std.room (std.vlen puts) (std.vlen [[0, 0]]) = true := room_s (a := puts.length) (b := 1) (by omega)
            exact ⟨cl, l, who, rv, ph, pos, wv, puts ++ [[0, 0]], reads, i2, h2, l8, hg.2, by rw [List.length_append, List.length_singleton]; omega, by omega, a2, fun k => by simp only [bf, bt, er, std_vapp]⟩
        · have er : std.room (std.ilen reads) (std.ilen [0]) = true := room_s (a := reads.length) (b := 1) (by omega)
          exact ⟨cl, l, who, rv, ph, pos, wv, puts, reads ++ [0], i2, h2, l8, hg.2, by omega, by rw [List.length_append, List.length_singleton]; omega, a2, fun k => by simp only [bf, bt, er, std_iapp]⟩
      · obtain ⟨y, i3, h3, p3, a3, k3⟩ := Below_pos b i2 h2 3 a2 (by omega)
        have e0 : std.ilen [0, 100, 2] = 3 := rfl
        have e1 : std.inb y 3 = true := pick_in b y (n := 3) (by omega)
        exact ⟨cl, l, _, rv, ph, pos, wv, puts, reads, i3, h3, l8, hg.2, by omega, by omega, a3, fun k => by simp only [bf, bt, e0, k3, e1]; rfl⟩
    · obtain ⟨y, i3, h3, -, a3, k3⟩ := Below_dr b i2 h2 10 a2
      exact ⟨cl, l, who, rv, y, pos, wv, puts, reads, i3, h3, l8, hg.2, by omega, by omega, a3, fun k => by simp only [bf, bt, k3]⟩
  · obtain ⟨y, i3, h3, p3, a3, k3⟩ := Below_pos b i2 h2 3 a2 (by omega)
    have e0 : std.ilen [-1, 1, 8] = 3 := rfl
    have e1 : std.inb y 3 = true := pick_in b y (n := 3) (by omega)
    exact ⟨cl, l, who, rv, ph, _, wv, puts, reads, i3, h3, l8, hg.2, by omega, by omega, a3, fun k => by simp only [bt, e0, k3, e1]; rfl⟩
theorem DrawCommitStep_dr (code : List Int) (hb : code.length ≤ 1048576) : ∃ cl l who rv ph pos wv puts reads, l.length ≤ 8 ∧ Wide 3 l ∧ puts.length ≤ 2000000 ∧ reads.length ≤ 2000000 ∧ ∀ k, spec_DrawCommitStep std code k = k cl l who rv ph pos wv puts reads := by
  obtain ⟨h0, k0⟩ := New_dr code hb
  obtain ⟨cl, l, who, rv, ph, pos, wv, puts, reads, i', h', q1, qw, q2, q3, -, q4⟩ := Any10_dr code 0 h0 ⟨Int.le_refl _, by omega, hb⟩
  exact ⟨cl, l, who, rv, ph, pos, wv, puts, reads, q1, qw, q2, q3, fun k => by simp only [spec_DrawCommitStep, spec_DrawCommitStep_f, k0, q4]⟩
theorem DrawCommitNew_dr (code : List Int) (hb : code.length ≤ 1048576) : ∃ who rv puts reads, puts.length ≤ 2000 ∧ reads.length ≤ 2000 ∧ Wide 2 puts ∧ Wide 2 reads ∧ ∀ k, spec_DrawCommitNew std code k = k who rv puts reads := by
  obtain ⟨h0, k0⟩ := New_dr code hb
  obtain ⟨x1, i1, h1, p1, a1, k1⟩ := Below_pos code 0 h0 7 ⟨Int.le_refl _, by omega, hb⟩ (by omega)
  obtain ⟨x2, i2, h2, p2, a2, k2⟩ := Below_pos code i1 h1 9 a1 (by omega)
  obtain ⟨r3, i3, h3, p3, a3, k3⟩ := Any8_dr code i2 h2 a2
  obtain ⟨r4, i4, h4, p4, a4, k4⟩ := Any8_dr code i3 h3 a3
  have e0 : std.ilen [1, 2, 99, 1, 3, 0, 100] = 7 := rfl
  have e1 : std.inb x1 7 = true := pick_in code x1 (n := 7) (by omega)
  have e2 : std.ilen [0, 1, 5, 1000000, 1000001, 3, -1, 2, 2] = 9 := rfl
  have e3 : std.inb x2 9 = true := pick_in code x2 (n := 9) (by omega)
  exact ⟨_, _, r3, r4, p3.1, p4.1, p3.2, p4.2, fun k => by simp only [spec_DrawCommitNew, spec_DrawCommitNew_f, k0, e0, k1, e1, bt, e2, k2, e3, k3, k4]; rfl⟩
end X
