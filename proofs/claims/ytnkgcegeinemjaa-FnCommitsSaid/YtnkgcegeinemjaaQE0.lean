/- Models of the functions, or plain laws about them; each theorem states its own conditions. -/
import Derived.Test.YtnkgcegeinemjaaQD2
set_option linter.unusedVariables false
set_option linter.unusedSimpArgs false
open Go.Proofs
namespace X
open PM Go

theorem inb_small {x : Int} {n : Nat} (h : 0 ≤ x ∧ x < n) : std.inb x (n : Int) = true := by rw [std_inb]; exact decide_eq_true h
theorem Any3_dr (b : List Int) (i h : Int) (ha : At b i) : ∃ c l i' h', l.length ≤ 8 ∧ Wide 3 l ∧ At b i' ∧ ∀ k, spec_l3Any std b i h k = k c l b i' h' := by
  obtain ⟨c, l, i1, h1, l8, lw, a1, k1⟩ := Mem3_dr b i h ha
  obtain ⟨x2, i2, h2, p2, a2, k2⟩ := Below_pos b i1 h1 8 a1 (by omega)
  obtain ⟨x3, i3, h3, -, a3, k3⟩ := Below_dr b i2 h2 30 a2
  have ei : std.inb x2 (std.vlen l) = true := by rw [std_vlen]; exact inb_small (by omega)
  have es : std.subb 0 x2 (std.vlen l) = true := by rw [std_vlen, std_subb]; exact decide_eq_true (by omega)
  have vw : ∀ (j : Nat) (x : Int), (std.vset l x2 j x).length ≤ 8 ∧ Wide 3 (std.vset l x2 j x) := fun j x => ⟨by rw [vset_len]; omega, vset_w lw _ _ _⟩
  simp only [spec_l3Any, spec_l3Any_f, k1, k2, k3, ei, es, bt]
  cases std.eq x3 0
  · cases std.eq x3 1
    · cases std.eq x3 2
      · cases std.eq x3 3
        · cases std.eq x3 4
          · cases std.eq x3 5
            · exact ⟨c, l, i3, h3, by omega, lw, a3, fun k => rfl⟩
            · exact ⟨c, _, i3, h3, (vw 1 (-1)).1, (vw 1 (-1)).2, a3, fun k => rfl⟩
          · exact ⟨_, l, i3, h3, by omega, lw, a3, fun k => rfl⟩
        · obtain ⟨x4, i4, h4, -, a4, k4⟩ := Below_dr b i3 h3 2 a3
          simp only [bt, bf, k4]
          exact ⟨c, _, i4, h4, (vw 2 _).1, (vw 2 _).2, a4, fun k => rfl⟩
      · exact ⟨c, _, i3, h3, (vw 0 65536).1, (vw 0 65536).2, a3, fun k => rfl⟩
    · exact ⟨c, _, i3, h3, (vw 1 _).1, (vw 1 _).2, a3, fun k => rfl⟩
  · refine ⟨c, std.vsub l 0 x2, i3, h3, ?_, ?_, a3, fun k => rfl⟩
    · rw [std_vsub]; simp; omega
    · intro r hr
      rw [std_vsub] at hr
      exact lw r (List.mem_of_mem_drop (List.mem_of_mem_take hr))
end X
