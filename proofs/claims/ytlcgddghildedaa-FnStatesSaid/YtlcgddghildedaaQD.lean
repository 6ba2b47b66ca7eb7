/- Models of the functions, or plain laws about them; each theorem states its own conditions. -/
import Derived.Test.YtlcgddghildedaaQV
set_option linter.unusedVariables false
set_option linter.unusedSimpArgs false
open Go.Proofs
namespace X
open PM Go

/-! ## Draws come to an end -/
theorem and255 (y : Int) : 0 ≤ bitsI .and .i64 y 255 ∧ bitsI .and .i64 y 255 ≤ 255 := by
  have h : (BitVec.ofInt 64 y &&& BitVec.ofInt 64 255).toNat ≤ 255 := by
    rw [BitVec.toNat_and]
    exact Nat.le_trans Nat.and_le_right (by decide)
  have e : bitsI .and .i64 y 255 = IntKind.i64.wrap (((BitVec.ofInt 64 y &&& BitVec.ofInt 64 255).toNat : Nat) : Int) := rfl
  rw [e, i64_wrap (by omega) (by omega)]
  omega
/-- The cursor's place. -/
def At (b : List Int) (i : Int) : Prop := 0 ≤ i ∧ i ≤ b.length ∧ b.length ≤ 1048576
def Dr {α : Type} (b : List Int) (P : α → Prop) (f : (α → List Int → Int → Int → R) → R) : Prop := ∃ x i' h', P x ∧ At b i' ∧ ∀ k, f k = k x b i' h'
theorem Dr.mono {α : Type} {b : List Int} {P Q : α → Prop} {f : (α → List Int → Int → Int → R) → R} (h : Dr b P f) (hpq : ∀ x, P x → Q x) : Dr b Q f := by
  obtain ⟨x, i, hh, h1, h2⟩ := h
  exact ⟨x, i, hh, hpq x h1, h2⟩
theorem std_bits (op : BinOp) (k : IntKind) (x y : Int) : std.bits op k x y = bitsI op k x y := rfl
theorem Byte_dr (b : List Int) (i h : Int) (ha : At b i) : Dr b (fun x => 0 ≤ x ∧ x ≤ 255) (fun k => spec_l1Byte std b i h k) := by
  obtain ⟨h1, h2, h3⟩ := ha
  have e1 : std.shOk .i64 33 = true := rfl
  have e2 : std.shOk .i64 45 = true := rfl
  simp only [spec_l1Byte, spec_l1Byte_f, e1, e2, cond_true]
  by_cases hlt : i < b.length
  · have e3 : std.lt i (std.ilen b) = true := by rw [std_lt, std_ilen]; exact decide_eq_true hlt
    have e4 : std.inb i (std.ilen b) = true := by rw [std_inb, std_ilen]; exact decide_eq_true ⟨h1, hlt⟩
    have e5 : std.add .i64 i 1 = i + 1 := by rw [std_add]; exact i64_wrap (by omega) (by omega)
    simp only [e3, e4, e5, cond_true]
    exact ⟨_, _, _, and255 _, ⟨by omega, by omega, h3⟩, fun k => rfl⟩
  · have e3 : std.lt i (std.ilen b) = false := by rw [std_lt, std_ilen]; exact decide_eq_false hlt
    simp only [e3, cond_false]
    exact ⟨_, _, _, and255 _, ⟨h1, h2, h3⟩, fun k => rfl⟩
theorem Below_dr (b : List Int) (i h n : Int) (ha : At b i) : Dr b (fun x => (n ≤ 0 → x = 0) ∧ (0 < n → 0 ≤ x ∧ x < n)) (fun k => spec_l1Below std b i h n k) := by
  simp only [spec_l1Below, spec_l1Below_f]
  by_cases h0 : n ≤ 0
  · have e : std.le n 0 = true := by rw [std_le]; exact decide_eq_true h0
    simp only [e, cond_true]
    exact ⟨0, i, h, ⟨fun _ => rfl, fun hh => by omega⟩, ha, fun k => rfl⟩
  · have e : std.le n 0 = false := by rw [std_le]; exact decide_eq_false h0
    have enz : std.nz n = true := by rw [std_nz]; exact decide_eq_true (by omega)
    have hm : ∀ x : Int, 0 ≤ x → (n ≤ 0 → x.tmod n = 0) ∧ (0 < n → 0 ≤ x.tmod n ∧ x.tmod n < n) := fun x hx => ⟨fun hh => by omega, fun hn => ⟨Int.tmod_nonneg _ hx, Int.tmod_lt_of_pos _ hn⟩⟩
    simp only [e, cond_false]
    obtain ⟨x1, i1, h1, p1, a1, k1⟩ := Byte_dr b i h ha
    by_cases h2 : n ≤ 256
    · have e2 : std.le n 256 = true := by rw [std_le]; exact decide_eq_true h2
      simp only [e2, cond_true, k1, enz, std_rem]
      exact ⟨_, _, _, hm x1 p1.1, a1, fun k => rfl⟩
    · have e2 : std.le n 256 = false := by rw [std_le]; exact decide_eq_false h2
      obtain ⟨x2, i2, h2, p2, a2, k2⟩ := Byte_dr b i1 h1 a1
      obtain ⟨x3, i3, h3, p3, a3, k3⟩ := Byte_dr b i2 h2 a2
      obtain ⟨x4, i4, h4, p4, a4, k4⟩ := Byte_dr b i3 h3 a3
      have w1 : IntKind.i64.wrap (x1 * 16777216) = x1 * 16777216 := i64_wrap (by omega) (by omega)
      have w2 : IntKind.i64.wrap (x2 * 65536) = x2 * 65536 := i64_wrap (by omega) (by omega)
      have w3 : IntKind.i64.wrap (x3 * 256) = x3 * 256 := i64_wrap (by omega) (by omega)
      have w4 : IntKind.i64.wrap (x1 * 16777216 + x2 * 65536) = x1 * 16777216 + x2 * 65536 := i64_wrap (by omega) (by omega)
      have w5 : IntKind.i64.wrap (x1 * 16777216 + x2 * 65536 + x3 * 256) = x1 * 16777216 + x2 * 65536 + x3 * 256 := i64_wrap (by omega) (by omega)
      have w6 : IntKind.i64.wrap (x1 * 16777216 + x2 * 65536 + x3 * 256 + x4) = x1 * 16777216 + x2 * 65536 + x3 * 256 + x4 := i64_wrap (by omega) (by omega)
      simp only [e2, cond_false, k1, k2, k3, k4, enz, cond_true, std_rem, std_add, std_mul, w1, w2, w3, w4, w5, w6]
      exact ⟨_, _, _, hm _ (by omega), a4, fun k => rfl⟩
/-- Below a positive number. -/
theorem Below_pos (b : List Int) (i h n : Int) (ha : At b i) (hn : 0 < n) : Dr b (fun x => 0 ≤ x ∧ x < n) (fun k => spec_l1Below std b i h n k) := (Below_dr b i h n ha).mono fun x hx => hx.2 hn
theorem Once_dr (b : List Int) (i h n : Int) (ha : At b i) : Dr b (fun _ => True) (fun k => spec_l1Once std b i h n k) := by
  obtain ⟨x, i', h', _, a, hk⟩ := Below_dr b i h n ha
  simp only [spec_l1Once, spec_l1Once_f, hk]
  exact ⟨_, _, _, trivial, a, fun k => rfl⟩
theorem Draw3_dr (b : List Int) (i h : Int) (ha : At b i) : Dr b (fun x => 0 ≤ x ∧ x ≤ 65535) (fun k => spec_l3Draw std b i h k) := by
  obtain ⟨c, i1, h1, _, a1, k1⟩ := Once_dr b i h 6 ha
  simp only [spec_l3Draw, spec_l3Draw_f, k1]
  cases c
  · obtain ⟨x, i2, h2, p2, a2, k2⟩ := Below_pos b i1 h1 9 a1 (by omega)
    simp only [cond_false, k2]
    exact ⟨_, _, _, by omega, a2, fun k => rfl⟩
  · have el : std.ilen [0, 65535, 65534, 256] = 4 := rfl
    obtain ⟨x, i2, h2, p2, a2, k2⟩ := Below_pos b i1 h1 4 a1 (by omega)
    have e2 : std.inb x 4 = true := by rw [std_inb]; exact decide_eq_true p2
    simp only [cond_true, el, k2, e2]
    refine ⟨_, _, _, ?_, a2, fun k => rfl⟩
    have : x = 0 ∨ x = 1 ∨ x = 2 ∨ x = 3 := by omega
    rcases this with rfl | rfl | rfl | rfl <;> decide
theorem New_dr (code : List Int) (hb : code.length ≤ 1048576) : ∃ h', ∀ k, spec_l1New std code k = k code 0 h' := by
  have key : ∀ (m N : Nat) (i : Nat) (h : Int), i + m = code.length → m < N → ∃ h', ∀ kx, spec_l1New_l0 std N code h i kx = kx code h' := by
    intro m
    induction m with
    | zero =>
      intro N i h hi hn
      obtain ⟨N, rfl⟩ : ∃ M, N = M + 1 := ⟨N - 1, by omega⟩
      exact ⟨h, fun kx => by simp only [spec_l1New_l0, std_ilen, lt_nat_f (show code.length ≤ i by omega), cond_false]⟩
    | succ m ih =>
      intro N i h hi hn
      obtain ⟨N, rfl⟩ : ∃ M, N = M + 1 := ⟨N - 1, by omega⟩
      obtain ⟨h', hh⟩ := ih N (i + 1) (std.bits .and .i64 (std.add .i64 (std.add .i64 (std.mul .i64 h 131) (std.wrap .i64 (std.iget code i))) 7) 1073741823) (by omega) (by omega)
      by_cases hl : (i : Int) < 4000
      · have e : std.lt (i : Int) 4000 = true := by rw [std_lt]; exact decide_eq_true hl
        exact ⟨h', fun kx => by simp only [spec_l1New_l0, std_ilen, lt_nat_t (show i < code.length by omega), inb_nat_t (show i < code.length by omega), e, cond_true, add1 (i := i) (by omega), hh]⟩
      · have e : std.lt (i : Int) 4000 = false := by rw [std_lt]; exact decide_eq_false hl
        exact ⟨h, fun kx => by simp only [spec_l1New_l0, std_ilen, lt_nat_t (show i < code.length by omega), e, cond_true, cond_false]⟩
  unfold spec_l1New spec_l1New_f
  generalize hN : std.fuel = N
  have hN : 4294967296 = N := hN
  obtain ⟨h', hh⟩ := key code.length N 0 (std.add .i64 10101 (std.ilen code)) (by omega) (by omega)
  exact ⟨h', fun k => hh _⟩
def Wide (n : Nat) (l : List (List Int)) : Prop := ∀ r ∈ l, r.length = n
theorem Wide.snoc {n : Nat} {l : List (List Int)} {r : List Int} (h : Wide n l) (hr : r.length = n) : Wide n (l ++ [r]) := by
  intro x hx
  rcases List.mem_append.1 hx with hx | hx
  · exact h x hx
  · rw [List.mem_singleton] at hx; subst hx; exact hr
end X
