/- Models of the functions, or plain laws about them; each theorem states its own conditions. -/
import Derived.Test.YtlcgddghildedaaQD2
set_option linter.unusedVariables false
set_option linter.unusedSimpArgs false
open Go.Proofs
namespace X
open PM Go

/-! ## Draws of rows -/
theorem Vals3_dr (b : List Int) (i h : Int) (ha : At b i) : Dr b (fun l : List Int => l.length = 8 ∧ ∀ x ∈ l, 0 ≤ x ∧ x ≤ 65535) (fun k => spec_l3DrawVals std b i h k) := by
  have key : ∀ (m N j : Nat) (i h : Int) (l : List Int), j + m = 8 → m < N → At b i → l.length = j → (∀ x ∈ l, 0 ≤ x ∧ x ≤ 65535) →
      ∃ i' h' l', At b i' ∧ l'.length = 8 ∧ (∀ x ∈ l', 0 ≤ x ∧ x ≤ 65535) ∧ ∀ kx, spec_l3DrawVals_l0 std (spec_l3Draw std) N j b i h l kx = kx b i' h' l' := by
    intro m
    induction m with
    | zero =>
      intro N j i h l hj hn ha hl hv
      obtain ⟨N, rfl⟩ : ∃ M, N = M + 1 := ⟨N - 1, by omega⟩
      have e : std.lt (j : Int) 8 = false := lt_nat_f (n := 8) (by omega)
      exact ⟨i, h, l, ha, by omega, hv, fun kx => by simp only [spec_l3DrawVals_l0, e, bf]⟩
    | succ m ih =>
      intro N j i h l hj hn ha hl hv
      obtain ⟨N, rfl⟩ : ∃ M, N = M + 1 := ⟨N - 1, by omega⟩
      have e : std.lt (j : Int) 8 = true := lt_nat_t (n := 8) (by omega)
      obtain ⟨x, i1, h1, p1, a1, k1⟩ := Draw3_dr b i h ha
      have er : std.room (std.ilen l) (std.ilen [x]) = true := room_s (a := l.length) (b := 1) (by omega)
      obtain ⟨i', h', l', q1, q2, q3, q4⟩ := ih N (j + 1) i1 h1 (l ++ [x]) (by omega) (by omega) a1 (by rw [List.length_append, List.length_singleton]; omega) (by
        intro y hy
        rcases List.mem_append.1 hy with hy | hy
        · exact hv y hy
        · rw [List.mem_singleton] at hy; subst hy; exact p1)
      exact ⟨i', h', l', q1, q2, q3, fun kx => by simp only [spec_l3DrawVals_l0, e, bt, k1, er, add1 (i := j) (by omega), std_iapp, q4]⟩
  unfold spec_l3DrawVals spec_l3DrawVals_f
  generalize hN : std.fuel = N
  have hN : 4294967296 = N := hN
  obtain ⟨i', h', l', q1, q2, q3, q4⟩ := key 8 N 0 i h [] (by omega) (by omega) ha rfl (fun _ h => by cases h)
  exact ⟨l', i', h', ⟨q2, q3⟩, q1, fun k => q4 _⟩
theorem Cell4_dr (b : List Int) (i h : Int) (ha : At b i) : Dr b (fun _ => True) (fun k => spec_l4DrawCell std b i h k) := by
  obtain ⟨c, i1, h1, -, a1, k1⟩ := Once_dr b i h 8 ha
  simp only [spec_l4DrawCell, spec_l4DrawCell_f, k1]
  cases c
  · obtain ⟨x, i2, h2, -, a2, k2⟩ := Below_dr b i1 h1 3 a1
    simp only [bf, k2]
    exact ⟨_, _, _, trivial, a2, fun k => rfl⟩
  · obtain ⟨x, i2, h2, -, a2, k2⟩ := Below_dr b i1 h1 8 a1
    simp only [bt, k2]
    exact ⟨_, _, _, trivial, a2, fun k => rfl⟩
def SmallR (n : Nat) (l : List (List Int)) : Prop := l.length ≤ n ∧ Wide 2 l
theorem Rows8_dr (b : List Int) (i h most : Int) (ha : At b i) (hm : 0 ≤ most ∧ most ≤ 1000) : Dr b (SmallR 1000) (fun k => spec_l8Rows std b i h most k) := by
  have key : ∀ (m N : Nat) (i h : Int) (l : List (List Int)), m ≤ 1000 → m < N → At b i → l.length + m ≤ 1000 → Wide 2 l →
      ∃ i' h' l', At b i' ∧ SmallR 1000 l' ∧ ∀ kx, spec_l8Rows_l0 std (spec_l1Below std) (spec_l3Draw std) (spec_l4DrawCell std) N m b i h l kx = kx b i' h' l' := by
    intro m
    induction m with
    | zero =>
      intro N i h l _ hn ha hl hw
      obtain ⟨N, rfl⟩ : ∃ M, N = M + 1 := ⟨N - 1, by omega⟩
      have e : std.lt 0 ((0 : Nat) : Int) = false := rfl
      exact ⟨i, h, l, ha, ⟨by omega, hw⟩, fun kx => by simp only [spec_l8Rows_l0, e, bf]⟩
    | succ m ih =>
      intro N i h l hm hn ha hl hw
      obtain ⟨N, rfl⟩ : ∃ M, N = M + 1 := ⟨N - 1, by omega⟩
      have e : std.lt 0 ((m + 1 : Nat) : Int) = true := by rw [std_lt]; exact decide_eq_true (by omega)
      obtain ⟨x, i1, h1, -, a1, k1⟩ := Cell4_dr b i h ha
      obtain ⟨y, i2, h2, -, a2, k2⟩ := Draw3_dr b i1 h1 a1
      have er : std.room (std.vlen l) (std.vlen [[x, y]]) = true := room_s (a := l.length) (b := 1) (by omega)
      obtain ⟨i', h', l', q1, q2, q3⟩ := ih N i2 h2 (l ++ [[x, y]]) (by omega) (by omega) a2 (by rw [List.length_append, List.length_singleton]; omega) (hw.snoc rfl)
      exact ⟨i', h', l', q1, q2, fun kx => by simp only [spec_l8Rows_l0, e, bt, k1, k2, er, sub1 (i := m) (by omega), std_vapp, q3]⟩
  have w : std.add .i64 most 1 = most + 1 := wrap_1 (by omega)
  obtain ⟨x, i1, h1, p1, a1, k1⟩ := Below_pos b i h (most + 1) ha (by omega)
  unfold spec_l8Rows spec_l8Rows_f
  generalize hN : std.fuel = N
  have hN : 4294967296 = N := hN
  obtain ⟨i', h', l', q1, q2, q3⟩ := key x.toNat N i1 h1 [] (by omega) (by omega) a1 (by simp; omega) (fun _ h => by cases h)
  rw [show ((x.toNat : Nat) : Int) = x by omega] at q3
  exact ⟨l', i', h', q2, q1, fun k => by simp only [w, k1]; exact q3 _⟩
end X
