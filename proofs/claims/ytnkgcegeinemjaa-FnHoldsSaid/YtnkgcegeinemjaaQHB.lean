/- Models of the functions, or plain laws about them; each theorem states its own conditions. -/
import Derived.Test.YtnkgcegeinemjaaQHA2
set_option linter.unusedVariables false
set_option linter.unusedSimpArgs false
open Go.Proofs
namespace X
open PM Go

/-! ## FnHolds: draws -/
theorem HoldAsk_sp (l : List (List Int)) (hb : l.length ≤ 1048576) (hw : Wide 3 l) (who what mode : Int) (k : List (List Int) → Bool → R) : spec_HoldAsk std l who what mode k = k (holdAsk l who what mode).1 (holdAsk l who what mode).2 := (HoldAsk_val l hb hw who what mode k).1
theorem pick_dr (l : List Int) (hl : 0 < l.length ∧ l.length ≤ 100) (b : List Int) (i h : Int) (ha : At b i) : ∃ x i' h', 0 ≤ x ∧ x < (l.length : Int) ∧ At b i' ∧ std.inb x (std.ilen l) = true ∧ ∀ k, spec_l1Below std b i h (std.ilen l) k = k x b i' h' := by
  obtain ⟨x, i', h', p, a, k⟩ := Below_pos b i h (std.ilen l) ha (by rw [std_ilen]; omega)
  rw [std_ilen] at p
  exact ⟨x, i', h', p.1, p.2, a, by rw [std_ilen, std_inb]; exact decide_eq_true p, k⟩
theorem Some14_l (b : List Int) : ∀ (m N n : Nat) (i h : Int) (l : List (List Int)), n ≤ m → m < N → m ≤ 8 → At b i → l.length + m ≤ 8 → Wide 3 l →
    ∃ i' h' l', At b i' ∧ l'.length ≤ 8 ∧ Wide 3 l' ∧ ∀ kx, spec_l14Some_l0 std (spec_HoldAsk std) (spec_l1Below std) N (n : Int) b i h l kx = kx b i' h' l'
  | m, 0, n, i, h, l, h1, h2, h3, ha, hl, hw => by omega
  | m, N + 1, 0, i, h, l, h1, h2, h3, ha, hl, hw => by
    have e : std.lt 0 ((0 : Nat) : Int) = false := rfl
    exact ⟨i, h, l, ha, by omega, hw, fun kx => by simp only [spec_l14Some_l0, e, bf]⟩
  | 0, N + 1, n + 1, i, h, l, h1, h2, h3, ha, hl, hw => by omega
  | m + 1, N + 1, n + 1, i, h, l, h1, h2, h3, ha, hl, hw => by
    have e : std.lt 0 ((n + 1 : Nat) : Int) = true := by rw [std_lt]; exact decide_eq_true (by omega)
    have es : std.sub .i64 ((n + 1 : Nat) : Int) 1 = (n : Int) := sub1 (by omega)
    obtain ⟨x1, i1, h1', -, a1, k1⟩ := Below_dr b i h 3 ha
    obtain ⟨x2, i2, h2', -, -, a2, g2, k2⟩ := pick_dr [0, 1, 4, 8, 8] ⟨by decide, by decide⟩ b i1 h1' a1
    obtain ⟨x3, i3, h3', -, a3, k3⟩ := Below_dr b i2 h2' 2 a2
    have hv := HoldAsk_sp l (by omega) hw (std.add .i64 1 x1) (std.iget [0, 1, 4, 8, 8] x2) (std.add .i64 1 x3)
    have hlen := holdAsk_length l (std.add .i64 1 x1) (std.iget [0, 1, 4, 8, 8] x2) (std.add .i64 1 x3)
    have hwd := holdAsk_wide hw (std.add .i64 1 x1) (std.iget [0, 1, 4, 8, 8] x2) (std.add .i64 1 x3)
    generalize holdAsk l (std.add .i64 1 x1) (std.iget [0, 1, 4, 8, 8] x2) (std.add .i64 1 x3) = q at hv hlen hwd
    obtain ⟨q1, q2⟩ := q
    cases q2
    · obtain ⟨i', h', l', r1, r2, r3, r4⟩ := Some14_l b m N n i3 h3' l (by omega) (by omega) (by omega) a3 (by omega) hw
      exact ⟨i', h', l', r1, r2, r3, fun kx => by simp only [spec_l14Some_l0, e, bt, bf, k1, k2, g2, k3, hv, es, r4]⟩
    · obtain ⟨i', h', l', r1, r2, r3, r4⟩ := Some14_l b m N n i3 h3' q1 (by omega) (by omega) (by omega) a3 (by simp only at hlen; omega) hwd
      exact ⟨i', h', l', r1, r2, r3, fun kx => by simp only [spec_l14Some_l0, e, bt, k1, k2, g2, k3, hv, es, r4]⟩
theorem Some14_dr (b : List Int) (i h : Int) (ha : At b i) : ∃ l i' h', l.length ≤ 8 ∧ Wide 3 l ∧ At b i' ∧ ∀ k, spec_l14Some std b i h k = k l b i' h' := by
  unfold spec_l14Some spec_l14Some_f
  generalize hN : std.fuel = N
  have hN : 4294967296 = N := hN
  obtain ⟨x1, i1, h1, p1, a1, k1⟩ := Below_pos b i h 8 ha (by omega)
  obtain ⟨i', h', l', r1, r2, r3, r4⟩ := Some14_l b 8 N x1.toNat i1 h1 [] (by omega) (by omega) (by omega) a1 (by simp) (fun _ h => by cases h)
  rw [Int.toNat_of_nonneg p1.1] at r4
  exact ⟨l', i', h', r2, r3, r1, fun k => by simp only [k1, r4]⟩
theorem Any14_dr (b : List Int) (i h : Int) (ha : At b i) : ∃ l i' h', l.length ≤ 9 ∧ Wide 3 l ∧ At b i' ∧ ∀ k, spec_l14Any std b i h k = k l b i' h' := by
  obtain ⟨l, i1, h1, q1, q2, a1, k1⟩ := Some14_dr b i h ha
  unfold spec_l14Any spec_l14Any_f
  by_cases h0 : l.length = 0
  · have e : std.eq (std.vlen l) 0 = true := by rw [std_vlen, h0]; rfl
    exact ⟨l, i1, h1, by omega, q2, a1, fun k => by simp only [k1, e, bt]⟩
  · have e : std.eq (std.vlen l) 0 = false := by rw [std_vlen, std_eq]; exact beq_eq_false_iff_ne.2 (by omega)
    obtain ⟨x2, i2, h2, p2, a2, k2⟩ := Below_pos b i1 h1 (std.vlen l) a1 (by rw [std_vlen]; omega)
    obtain ⟨x3, i3, h3, -, a3, k3⟩ := Below_dr b i2 h2 20 a2
    have ei : std.inb x2 (std.vlen l) = true := by rw [std_vlen, std_inb]; rw [std_vlen] at p2; exact decide_eq_true p2
    have ei0 : std.inb 0 (std.vlen l) = true := by rw [std_vlen, std_inb]; exact decide_eq_true (by omega)
    have vw : ∀ (j : Nat) (x : Int), (std.vset l x2 j x).length ≤ 9 ∧ Wide 3 (std.vset l x2 j x) := fun j x => ⟨by rw [vset_len]; omega, vset_w q2 _ _ _⟩
    have er : ∀ x : List Int, std.room (std.vlen l) (std.vlen [x]) = true := fun x => room_s (a := l.length) (b := 1) (by omega)
    simp only [k1, e, bf, k2, k3]
    cases std.eq x3 0
    · cases std.eq x3 1
      · cases std.eq x3 2
        · cases std.eq x3 3
          · exact ⟨l, i3, h3, by omega, q2, a3, fun k => by simp only [bf]⟩
          · exact ⟨_, i3, h3, (by rw [List.length_append, List.length_singleton]; omega), q2.snoc (r := [std.vget l 0 0, std.vget l 0 1, std.vget l 0 2]) rfl, a3, fun k => by simp only [bf, bt, ei0, er]; rfl⟩
        · obtain ⟨x4, i4, h4, -, -, a4, g4, k4⟩ := pick_dr [0, 10] ⟨by decide, by decide⟩ b i3 h3 a3
          exact ⟨_, i4, h4, (vw 0 (std.iget [0, 10] x4)).1, (vw 0 _).2, a4, fun k => by simp only [bf, bt, k4, g4, ei]⟩
      · exact ⟨_, i3, h3, (vw 1 9).1, (vw 1 9).2, a3, fun k => by simp only [bf, bt, ei]⟩
    · obtain ⟨x4, i4, h4, -, -, a4, g4, k4⟩ := pick_dr [0, 2, 3] ⟨by decide, by decide⟩ b i3 h3 a3
      exact ⟨_, i4, h4, (vw 2 (std.iget [0, 2, 3] x4)).1, (vw 2 _).2, a4, fun k => by simp only [bt, k4, g4, ei]⟩
theorem DrawHoldAsk_dr (code : List Int) (hb : code.length ≤ 1048576) : ∃ l who what mode, l.length ≤ 9 ∧ Wide 3 l ∧ ∀ k, spec_DrawHoldAsk std code k = k l who what mode := by
  obtain ⟨h0, k0⟩ := New_dr code hb
  have a0 : At code 0 := ⟨Int.le_refl _, by omega, hb⟩
  obtain ⟨l, i1, h1, q1, q2, a1, k1⟩ := Any14_dr code 0 h0 a0
  obtain ⟨x2, i2, h2, -, -, a2, g2, k2⟩ := pick_dr [1, 2, 3, 1, 2, 9, 10, 0] ⟨by decide, by decide⟩ code i1 h1 a1
  obtain ⟨x3, i3, h3, -, -, a3, g3, k3⟩ := pick_dr [0, 1, 4, 8, 8, 7, 9, (-1)] ⟨by decide, by decide⟩ code i2 h2 a2
  obtain ⟨x4, i4, h4, -, -, a4, g4, k4⟩ := pick_dr [1, 2, 1, 2, 1, 2, 3, 0] ⟨by decide, by decide⟩ code i3 h3 a3
  exact ⟨l, std.iget [1, 2, 3, 1, 2, 9, 10, 0] x2, std.iget [0, 1, 4, 8, 8, 7, 9, (-1)] x3, std.iget [1, 2, 1, 2, 1, 2, 3, 0] x4, q1, q2, fun k => by simp only [spec_DrawHoldAsk, spec_DrawHoldAsk_f, k0, k1, k2, g2, bt, k3, g3, k4, g4]⟩
end X
