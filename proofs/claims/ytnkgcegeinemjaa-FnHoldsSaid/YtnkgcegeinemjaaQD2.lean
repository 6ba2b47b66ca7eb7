/- Models of the functions, or plain laws about them; each theorem states its own conditions. -/
import Derived.Test.YtnkgcegeinemjaaQD
set_option linter.unusedVariables false
set_option linter.unusedSimpArgs false
open Go.Proofs
namespace X
open PM Go
theorem bt {α : Type} (a b : α) : (bif true then a else b) = a := Eq.trans (id rfl) rfl
theorem bf {α : Type} (a b : α) : (bif false then a else b) = b := Eq.trans (id rfl) rfl
theorem Mem3_l (b : List Int) (busy o1 clock : Int) (o3 : List (List Int)) : ∀ (m N j : Nat) (i h : Int) (l : List (List Int)), j + m = 8 → m < N → At b i → l.length = j → Wide 3 l →
    ∃ i' h' l', At b i' ∧ l'.length = 8 ∧ Wide 3 l' ∧ ∀ kx, spec_l3Mem_l0 std (spec_l1Below std) (spec_l1Once std) (spec_l3Draw std) N busy j b i h o1 clock o3 l kx = kx b i' h' o1 clock o3 l'
  | 0, N + 1, j, i, h, l, hj, hn, ha, hl, hw => by
    have e : std.lt (j : Int) 8 = false := lt_nat_f (n := 8) (by omega)
    exact ⟨i, h, l, ha, by omega, hw, fun kx => by simp only [spec_l3Mem_l0, e, bf]⟩
  | m + 1, N + 1, j, i, h, l, hj, hn, ha, hl, hw => by
    have e : std.lt (j : Int) 8 = true := lt_nat_t (n := 8) (by omega)
    have ej : std.add .i64 (j : Int) 1 = ((j + 1 : Nat) : Int) := add1 (by omega)
    obtain ⟨x, i1, h1, -, a1, k1⟩ := Draw3_dr b i h ha
    obtain ⟨y, i2, h2, -, a2, k2⟩ := Below_dr b i1 h1 (std.add .i64 clock 1) a1
    have er : ∀ z : Int, std.room (std.vlen l) (std.vlen [[x, y, z]]) = true := fun z => room_s (a := l.length) (b := 1) (by omega)
    have next : ∀ (z i h : Int), At b i → ∃ i' h' l', At b i' ∧ l'.length = 8 ∧ Wide 3 l' ∧ ∀ kx, spec_l3Mem_l0 std (spec_l1Below std) (spec_l1Once std) (spec_l3Draw std) N busy ((j + 1 : Nat) : Int) b i h o1 clock o3 (std.vapp l [[x, y, z]]) kx = kx b i' h' o1 clock o3 l' :=
      fun z i h ha => Mem3_l b busy o1 clock o3 m N (j + 1) i h (l ++ [[x, y, z]]) (by omega) (by omega) ha (by rw [List.length_append, List.length_singleton]; omega) (hw.snoc rfl)
    cases hb : std.lt 0 busy
    · obtain ⟨i', h', l', q1, q2, q3, q4⟩ := next 0 i2 h2 a2
      exact ⟨i', h', l', q1, q2, q3, fun kx => by simp only [spec_l3Mem_l0, e, bt, k1, k2, hb, bf, er, ej, q4]⟩
    · obtain ⟨c, i3, h3, -, a3, k3⟩ := Once_dr b i2 h2 4 a2
      cases c
      · obtain ⟨i', h', l', q1, q2, q3, q4⟩ := next 0 i3 h3 a3
        exact ⟨i', h', l', q1, q2, q3, fun kx => by simp only [spec_l3Mem_l0, e, bt, k1, k2, k3, hb, bf, er, ej, q4]⟩
      · obtain ⟨z, i4, h4, -, a4, k4⟩ := Below_dr b i3 h3 4 a3
        obtain ⟨i', h', l', q1, q2, q3, q4⟩ := next (std.add .i64 1 z) i4 h4 a4
        exact ⟨i', h', l', q1, q2, q3, fun kx => by simp only [spec_l3Mem_l0, e, bt, k1, k2, k3, k4, hb, er, ej, q4]⟩
theorem Mem3_dr (b : List Int) (i h : Int) (ha : At b i) : ∃ c l i' h', l.length = 8 ∧ Wide 3 l ∧ At b i' ∧ ∀ k, spec_l3Mem std b i h k = k c l b i' h' := by
  unfold spec_l3Mem spec_l3Mem_f
  generalize hN : std.fuel = N
  have hN : 4294967296 = N := hN
  obtain ⟨x1, i1, h1, -, a1, k1⟩ := Below_dr b i h 12 ha
  obtain ⟨c, i2, h2, -, a2, k2⟩ := Once_dr b i1 h1 20 a1
  cases c
  · obtain ⟨x3, i3, h3, -, a3, k3⟩ := Below_dr b i2 h2 3 a2
    obtain ⟨i', h', l', q1, q2, q3, q4⟩ := Mem3_l b x3 0 x1 [] 8 N 0 i3 h3 [] (by omega) (by omega) a3 rfl (fun _ h => by cases h)
    exact ⟨x1, l', i', h', q2, q3, q1, fun k => by simp only [k1, k2, k3, bf]; exact q4 _⟩
  · obtain ⟨x3, i3, h3, -, a3, k3⟩ := Below_dr b i2 h2 2 a2
    obtain ⟨x4, i4, h4, -, a4, k4⟩ := Below_dr b i3 h3 3 a3
    obtain ⟨i', h', l', q1, q2, q3, q4⟩ := Mem3_l b x4 0 (std.sub .i64 1000000 x3) [] 8 N 0 i4 h4 [] (by omega) (by omega) a4 rfl (fun _ h => by cases h)
    exact ⟨_, l', i', h', q2, q3, q1, fun k => by simp only [k1, k2, k3, k4, bt]; exact q4 _⟩
end X
