/- Models of the functions, or plain laws about them; each theorem states its own conditions. -/
import Derived.Test.YtnkgcegeinemjaaQ10
import Derived.Test.YtnkgcegeinemjaaQF
set_option linter.unusedVariables false
set_option linter.unusedSimpArgs false
open Go.Proofs
namespace X
open PM Go

/-! ## Draws of commits -/
theorem Some_l0 (N : Nat) (hN : 8 < N) (b : List Int) (i h a0 a1 a2 a3 a4 a5 cl : Int) (E1 : List (List Int)) (E2 : List (List Int)) (E3 : List Int) (l : List (List Int)) (hg : GoodM 8 l) : ∃ l', GoodM 8 l' ∧ ∀ kx,
    spec_l10Some_l0 std (spec_CommitNew std) (spec_CommitStep std) (spec_l1Below std) (spec_l1Once std) (spec_l3Mem std) (spec_l8Rows std) N 0 b i h a0 a1 a2 a3 a4 a5 cl E1 E2 E3 l kx = kx b i h a0 a1 a2 a3 a4 a5 cl E1 E2 E3 l' := by
  refine ⟨foldB (fun j l => std.vset l (j : Int) 2 0) 8 l, foldB_inv (f := fun j l => std.vset l (j : Int) 2 0) (fun _ l => GoodM 8 l) hg fun j l _ h => ⟨by rw [vset_length]; exact h.1, vset_wide h.2 _ _ _⟩, fun kx => ?_⟩
  refine loop_fold0 (F := fun n j l => spec_l10Some_l0 std (spec_CommitNew std) (spec_CommitStep std) (spec_l1Below std) (spec_l1Once std) (spec_l3Mem std) (spec_l8Rows std) n j b i h a0 a1 a2 a3 a4 a5 cl E1 E2 E3 l kx) (kx := fun l => kx b i h a0 a1 a2 a3 a4 a5 cl E1 E2 E3 l) (f := fun j l => std.vset l (j : Int) 2 0) (len := 8) (fun _ l => GoodM 8 l) hN hg (fun n j l hj hg => ?_) (fun j l _ h => ⟨by rw [vset_length]; exact h.1, vset_wide h.2 _ _ _⟩) (fun n l hg => ?_)
  · have e1 : std.lt (j : Int) (std.vlen l) = true := by rw [std_vlen, hg.1]; exact lt_nat_t hj
    have e2 : std.inb (j : Int) (std.vlen l) = true := by rw [std_vlen, hg.1]; exact inb_nat_t hj
    simp only [spec_l10Some_l0, e1, e2, bt, add1 (i := j) (by omega)]
  · have e1 : std.lt ((8 : Nat) : Int) (std.vlen l) = false := by rw [std_vlen, hg.1]; exact lt_nat_f (Nat.le_refl _)
    simp only [spec_l10Some_l0, e1, bf]
theorem Some_l2 (b : List Int) (i h a0 a1 a2 a3 a4 a5 : Int) (E1 : List (List Int)) (E2 : List (List Int)) (E3 : List Int) : ∀ (m N : Nat) (cl : Int) (l : List (List Int)) (c : Cm), m ≤ 1000 → m < N → GoodM 8 l → c.small → ∃ cl' l' c', GoodM 8 l' ∧ Cm.small c' ∧ ∀ kx,
    spec_l10Some_l2 std (spec_CommitNew std) (spec_CommitStep std) (spec_l1Below std) (spec_l1Once std) (spec_l3Mem std) (spec_l8Rows std) N m b i h a0 a1 a2 a3 a4 a5 cl c.who c.rv c.ph c.pos c.wv E1 E2 E3 l c.puts c.reads kx = kx b i h a0 a1 a2 a3 a4 a5 cl' c'.who c'.rv c'.ph c'.pos c'.wv E1 E2 E3 l' c'.puts c'.reads
  | 0, N + 1, cl, l, c, _, hn, hg, hs => by
    have e : std.lt 0 ((0 : Nat) : Int) = false := rfl
    exact ⟨cl, l, c, hg, hs, fun kx => by simp only [spec_l10Some_l2, e, bf]⟩
  | m + 1, N + 1, cl, l, c, hm, hn, hg, hs => by
    have e : std.lt 0 ((m + 1 : Nat) : Int) = true := by rw [std_lt]; exact decide_eq_true (by omega)
    have v := CommitStep_val cl l c (by have := hg.1; omega) hs
    have g := commitStep_good (cl := cl) hg hs
    generalize commitStep cl l c = cs at v g
    obtain ⟨cl1, l1, c1⟩ := cs
    obtain ⟨cl', l', c', q1, q2, q3⟩ := Some_l2 b i h a0 a1 a2 a3 a4 a5 E1 E2 E3 m N cl1 l1 c1 (by omega) (by omega) g.1 g.2
    simp only at v q3
    exact ⟨cl', l', c', q1, q2, fun kx => by simp only [spec_l10Some_l2, e, bt, (v _).1, Cm.k, sub1 (i := m) (by omega), q3]⟩
theorem Some_dr (b : List Int) (i h : Int) (ha : At b i) : ∃ cl l c i' h', GoodM 8 l ∧ Cm.small c ∧ At b i' ∧ ∀ k, spec_l10Some std b i h k = k cl l c.who c.rv c.ph c.pos c.wv c.puts c.reads b i' h' := by
  unfold spec_l10Some spec_l10Some_f
  generalize hN : std.fuel = N
  have hN : 4294967296 = N := hN
  obtain ⟨cl, l, i1, h1, l8, lw, a1, k1⟩ := Mem3_dr b i h ha
  have hg : GoodM 8 l := ⟨l8, lw⟩
  obtain ⟨d, i2, h2, -, a2, k2⟩ := Once_dr b i1 h1 2 a1
  obtain ⟨x3, i3, h3, -, a3, k3⟩ := Below_dr b i2 h2 3 a2
  cases d
  · cases hlt : std.lt (std.sub .i64 cl x3) 0
    · obtain ⟨x4, i4, h4, -, a4, k4⟩ := Below_dr b i3 h3 4 a3
      obtain ⟨r5, i5, h5, p5, a5, k5⟩ := Rows8_dr b i4 h4 4 a4 (by omega)
      obtain ⟨r6, i6, h6, p6, a6, k6⟩ := Rows8_dr b i5 h5 4 a5 (by omega)
      obtain ⟨x7, i7, h7, p7, a7, k7⟩ := Below_pos b i6 h6 16 a6 (by omega)
      have nv := fun k => (CommitNew_val (std.add .i64 1 x4) (std.sub .i64 cl x3) r5 r6 (by have := p5.1; omega) (by have := p6.1; omega) k).1
      have ns := commitNew_small (std.add .i64 1 x4) (std.sub .i64 cl x3) r5 r6
      generalize commitNew (std.add .i64 1 x4) (std.sub .i64 cl x3) r5 r6 = cn at nv ns
      obtain ⟨c0, is⟩ := cn
      obtain ⟨cl', l', c', q1, q2, q3⟩ := Some_l2 b i7 h7 0 0 0 0 0 0 [] [] [] x7.toNat N cl l c0 (by omega) (by omega) hg ns
      rw [show ((x7.toNat : Nat) : Int) = x7 by omega] at q3
      simp only [Cm.k] at nv
      exact ⟨cl', l', c', i7, h7, q1, q2, a7, fun k => by simp only [k1, k2, bf, k3, hlt, k4, k5, k6, k7, nv, q3]⟩
    · obtain ⟨x4, i4, h4, -, a4, k4⟩ := Below_dr b i3 h3 4 a3
      obtain ⟨r5, i5, h5, p5, a5, k5⟩ := Rows8_dr b i4 h4 4 a4 (by omega)
      obtain ⟨r6, i6, h6, p6, a6, k6⟩ := Rows8_dr b i5 h5 4 a5 (by omega)
      obtain ⟨x7, i7, h7, p7, a7, k7⟩ := Below_pos b i6 h6 16 a6 (by omega)
      have nv := fun k => (CommitNew_val (std.add .i64 1 x4) 0 r5 r6 (by have := p5.1; omega) (by have := p6.1; omega) k).1
      have ns := commitNew_small (std.add .i64 1 x4) 0 r5 r6
      generalize commitNew (std.add .i64 1 x4) 0 r5 r6 = cn at nv ns
      obtain ⟨c0, is⟩ := cn
      obtain ⟨cl', l', c', q1, q2, q3⟩ := Some_l2 b i7 h7 0 0 0 0 0 0 [] [] [] x7.toNat N cl l c0 (by omega) (by omega) hg ns
      rw [show ((x7.toNat : Nat) : Int) = x7 by omega] at q3
      simp only [Cm.k] at nv
      exact ⟨cl', l', c', i7, h7, q1, q2, a7, fun k => by simp only [k1, k2, bf, k3, hlt, bt, k4, k5, k6, k7, nv, q3]⟩
  · obtain ⟨l2, hg2, kl⟩ := Some_l0 N (by omega) b i2 h2 0 0 0 0 0 0 cl [] [] [] l hg
    cases hlt : std.lt (std.sub .i64 cl x3) 0
    · obtain ⟨x4, i4, h4, -, a4, k4⟩ := Below_dr b i3 h3 4 a3
      obtain ⟨r5, i5, h5, p5, a5, k5⟩ := Rows8_dr b i4 h4 4 a4 (by omega)
      obtain ⟨r6, i6, h6, p6, a6, k6⟩ := Rows8_dr b i5 h5 4 a5 (by omega)
      obtain ⟨x7, i7, h7, p7, a7, k7⟩ := Below_pos b i6 h6 16 a6 (by omega)
      have nv := fun k => (CommitNew_val (std.add .i64 1 x4) (std.sub .i64 cl x3) r5 r6 (by have := p5.1; omega) (by have := p6.1; omega) k).1
      have ns := commitNew_small (std.add .i64 1 x4) (std.sub .i64 cl x3) r5 r6
      generalize commitNew (std.add .i64 1 x4) (std.sub .i64 cl x3) r5 r6 = cn at nv ns
      obtain ⟨c0, is⟩ := cn
      obtain ⟨cl', l', c', q1, q2, q3⟩ := Some_l2 b i7 h7 0 0 0 0 0 0 [] [] [] x7.toNat N cl l2 c0 (by omega) (by omega) hg2 ns
      rw [show ((x7.toNat : Nat) : Int) = x7 by omega] at q3
      simp only [Cm.k] at nv
      exact ⟨cl', l', c', i7, h7, q1, q2, a7, fun k => by simp only [k1, k2, bt, kl, k3, hlt, bf, k4, k5, k6, k7, nv, q3]⟩
    · obtain ⟨x4, i4, h4, -, a4, k4⟩ := Below_dr b i3 h3 4 a3
      obtain ⟨r5, i5, h5, p5, a5, k5⟩ := Rows8_dr b i4 h4 4 a4 (by omega)
      obtain ⟨r6, i6, h6, p6, a6, k6⟩ := Rows8_dr b i5 h5 4 a5 (by omega)
      obtain ⟨x7, i7, h7, p7, a7, k7⟩ := Below_pos b i6 h6 16 a6 (by omega)
      have nv := fun k => (CommitNew_val (std.add .i64 1 x4) 0 r5 r6 (by have := p5.1; omega) (by have := p6.1; omega) k).1
      have ns := commitNew_small (std.add .i64 1 x4) 0 r5 r6
      generalize commitNew (std.add .i64 1 x4) 0 r5 r6 = cn at nv ns
      obtain ⟨c0, is⟩ := cn
      obtain ⟨cl', l', c', q1, q2, q3⟩ := Some_l2 b i7 h7 0 0 0 0 0 0 [] [] [] x7.toNat N cl l2 c0 (by omega) (by omega) hg2 ns
      rw [show ((x7.toNat : Nat) : Int) = x7 by omega] at q3
      simp only [Cm.k] at nv
      exact ⟨cl', l', c', i7, h7, q1, q2, a7, fun k => by simp only [k1, k2, bt, kl, k3, hlt, k4, k5, k6, k7, nv, q3]⟩
end X
