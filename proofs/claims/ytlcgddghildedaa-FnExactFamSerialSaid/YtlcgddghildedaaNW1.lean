/- Models of the functions, or plain laws about them; each theorem states its own conditions. -/
import Derived.Test.YtlcgddghildedaaNFO2
set_option linter.unusedVariables false
set_option linter.unusedSimpArgs false
open Go.Proofs
namespace X
open PM Go
set_option maxHeartbeats 1000000
/-! ## What a kid's row may be -/
def Reg (x : Int) : Prop := 0 ≤ x ∧ x ≤ 3
def Cel (x : Int) : Prop := 0 ≤ x ∧ x ≤ 7
def Val (x : Int) : Prop := 0 ≤ x ∧ x ≤ 65535
theorem inB_t {x a b : Int} (h : inB x a b = true) : a ≤ x ∧ x ≤ b := of_decide_eq_true h
theorem opx (K a b c : Int) (h : opB K a b c = true) : spec_OpOk std K a b c (fun r => some (V.bool r)) = some (.bool true) := by rw [OpOk_val, h]
theorem reg_val (x : Int) (k : Bool → R) : spec_l4Reg std x k = k (inB x 0 3) := in_val x 0 3 k
theorem op1 (a b c : Int) (h : opB 1 a b c = true) : Reg a ∧ Val b := by
  have e := opx 1 a b c h
  simp only [spec_OpOk, spec_OpOk_f, show std.eq 1 1 = true from rfl, bt, bf, reg_val, cell_val, val_val, in_val] at e
  cases h1 : inB a 0 3
  · rw [h1] at e; cases e
  cases h2 : valB b
  · rw [h1, h2] at e; cases e
  exact ⟨inB_t h1, inB_t h2⟩
theorem op234 (K a b c : Int) (hK : K = 2 ∨ K = 3 ∨ K = 4) (h : opB K a b c = true) : Reg a ∧ Reg b ∧ Reg c := by
  have e := opx K a b c h
  have e2 : spec_OpOk std K a b c (fun r => some (V.bool r)) = bif inB a 0 3 then (bif inB b 0 3 then some (.bool (inB c 0 3)) else some (.bool false)) else some (.bool false) := by
    rcases hK with rfl | rfl | rfl
    · simp only [spec_OpOk, spec_OpOk_f, show std.eq 2 1 = false from rfl, show std.eq 2 2 = true from rfl, bt, bf, reg_val]
    · simp only [spec_OpOk, spec_OpOk_f, show std.eq 3 1 = false from rfl, show std.eq 3 2 = false from rfl, show std.eq 3 3 = true from rfl, bt, bf, reg_val]
    · simp only [spec_OpOk, spec_OpOk_f, show std.eq 4 1 = false from rfl, show std.eq 4 2 = false from rfl, show std.eq 4 3 = false from rfl, show std.eq 4 4 = true from rfl, bt, bf, reg_val]
  rw [e2] at e
  cases h1 : inB a 0 3
  · rw [h1] at e; cases e
  cases h2 : inB b 0 3
  · rw [h1, h2] at e; cases e
  cases h3 : inB c 0 3
  · rw [h1, h2, h3] at e; cases e
  exact ⟨inB_t h1, inB_t h2, inB_t h3⟩
theorem op5 (a b c : Int) (h : opB 5 a b c = true) : Reg a ∧ Cel b := by
  have e := opx 5 a b c h
  simp only [spec_OpOk, spec_OpOk_f, show std.eq 5 1 = false from rfl, show std.eq 5 2 = false from rfl, show std.eq 5 3 = false from rfl, show std.eq 5 4 = false from rfl, show std.eq 5 5 = true from rfl, bt, bf, reg_val, cell_val, val_val, in_val] at e
  cases h1 : inB a 0 3
  · rw [h1] at e; cases e
  cases h2 : cellB b
  · rw [h1, h2] at e; cases e
  exact ⟨inB_t h1, inB_t h2⟩
theorem op6 (a b c : Int) (h : opB 6 a b c = true) : Cel a ∧ Reg b := by
  have e := opx 6 a b c h
  simp only [spec_OpOk, spec_OpOk_f, show std.eq 6 1 = false from rfl, show std.eq 6 2 = false from rfl, show std.eq 6 3 = false from rfl, show std.eq 6 4 = false from rfl, show std.eq 6 5 = false from rfl, show std.eq 6 6 = true from rfl, bt, bf, reg_val, cell_val, val_val, in_val] at e
  cases h1 : cellB a
  · rw [h1] at e; cases e
  cases h2 : inB b 0 3
  · rw [h1, h2] at e; cases e
  exact ⟨inB_t h1, inB_t h2⟩
theorem op7r (a b c : Int) (h : opB 7 a b c = true) : Reg a := by
  have e := opx 7 a b c h
  simp only [spec_OpOk, spec_OpOk_f, show std.eq 7 1 = false from rfl, show std.eq 7 2 = false from rfl, show std.eq 7 3 = false from rfl, show std.eq 7 4 = false from rfl, show std.eq 7 5 = false from rfl, show std.eq 7 6 = false from rfl, show std.eq 7 7 = true from rfl, bt, bf, reg_val, cell_val, val_val, in_val] at e
  cases h1 : inB a 0 3
  · rw [h1] at e; cases e
  exact inB_t h1
theorem op8 (a b c : Int) (h : opB 8 a b c = true) : Reg a := by
  have e := opx 8 a b c h
  simp only [spec_OpOk, spec_OpOk_f, show std.eq 8 1 = false from rfl, show std.eq 8 2 = false from rfl, show std.eq 8 3 = false from rfl, show std.eq 8 4 = false from rfl, show std.eq 8 5 = false from rfl, show std.eq 8 6 = false from rfl, show std.eq 8 7 = false from rfl, show std.eq 8 8 = true from rfl, bt, bf, reg_val, cell_val, val_val, in_val] at e
  cases h1 : inB a 0 3
  · rw [h1] at e; cases e
  exact inB_t h1
theorem eqn {x n : Int} (h : x ≠ n) : std.eq x n = false := beq_eq_false_iff_ne.2 h
theorem eqt (n : Int) : std.eq n n = true := beq_self_eq_true n
/-- The kinds. -/
theorem op_kind (K a b c : Int) (h : opB K a b c = true) : 1 ≤ K ∧ K ≤ 16 := by
  by_cases hr : 1 ≤ K ∧ K ≤ 16
  · exact hr
  have e := opx K a b c h
  simp only [spec_OpOk, spec_OpOk_f, eqn (x := K) (n := 1) (by omega), eqn (x := K) (n := 2) (by omega), eqn (x := K) (n := 3) (by omega), eqn (x := K) (n := 4) (by omega), eqn (x := K) (n := 5) (by omega), eqn (x := K) (n := 6) (by omega), eqn (x := K) (n := 7) (by omega), eqn (x := K) (n := 8) (by omega), eqn (x := K) (n := 9) (by omega), eqn (x := K) (n := 10) (by omega), eqn (x := K) (n := 11) (by omega), eqn (x := K) (n := 12) (by omega), eqn (x := K) (n := 13) (by omega), eqn (x := K) (n := 14) (by omega), eqn (x := K) (n := 15) (by omega), eqn (x := K) (n := 16) (by omega), bf] at e
  cases e
theorem touch_2 (K a b c : Int) (h : opB K a b c = true) (hK : 12 ≤ K ∧ K ≤ 16) : touch K a b c = 2 := by
  have e := Touches_val K a b c (fun r => some (V.int .i64 r))
  have e2 : spec_Touches std K a b c (fun r => some (V.int .i64 r)) = some (.int .i64 2) := by
    have : K = 12 ∨ K = 13 ∨ K = 14 ∨ K = 15 ∨ K = 16 := by omega
    simp only [spec_Touches, spec_Touches_f, OpOk_val, h, not_true', bf]
    rcases this with rfl | rfl | rfl | rfl | rfl <;> rfl
  rw [e2] at e
  injection e with e
  injection e with _ e
  exact e.symm
theorem kid_kind {l : List (List Int)} (hk : kidB l = true) {i : Nat} (hi : i < l.length) : opS l i = true ∧ 1 ≤ kd l i ∧ kd l i ≤ 10 := by
  unfold kidB codeB at hk
  simp only [Bool.and_eq_true] at hk
  obtain ⟨⟨_, hc, _⟩, hf, ht⟩ := hk
  have h1 := allB_at hc hi
  rw [Bool.and_eq_true] at h1
  have h2 := allB_at ht hi
  unfold forkB at hf
  rw [Bool.not_not] at hf
  have h3 := allB_at hf hi
  have ho := h1.1
  have hr := op_kind _ _ _ _ (show opB _ _ _ _ = true from ho)
  refine ⟨ho, hr.1, ?_⟩
  by_cases h10 : kd l i ≤ 10
  · exact h10
  by_cases h11 : kd l i = 11
  · unfold kd at h11
    rw [h11] at h3
    cases h3
  have := touch_2 _ _ _ _ (show opB _ _ _ _ = true from ho) ⟨by unfold kd at h10 h11; omega, hr.2⟩
  unfold tcB at h2
  rw [this] at h2
  cases h2
theorem kid_len {l : List (List Int)} (hk : kidB l = true) : l.length ≤ 24 := by
  unfold kidB codeB at hk
  simp only [Bool.and_eq_true] at hk
  obtain ⟨⟨h, _⟩, _⟩ := hk
  rw [Bool.not_eq_true', std_lt, std_vlen] at h
  have := of_decide_eq_false h
  omega
theorem kid_dep {l : List (List Int)} (hk : kidB l = true) : dep l 0 l.length = 0 ∧ ∀ i, i ≤ l.length → 0 ≤ dep l 0 i := by
  unfold kidB codeB at hk
  simp only [Bool.and_eq_true] at hk
  obtain ⟨⟨_, hc, h0⟩, _⟩ := hk
  refine ⟨eq_of_beq h0, fun i hi => ?_⟩
  cases i with
  | zero => exact Int.le_refl _
  | succ i =>
    have h1 := allB_at hc (show i < l.length by omega)
    simp only [Bool.and_eq_true] at h1
    have h2 := h1.2.2.2
    unfold nnS at h2
    rw [Bool.not_eq_true', std_lt] at h2
    have := of_decide_eq_false h2
    omega
theorem dep_add (l : List (List Int)) (a : Nat) : ∀ j, dep l 0 (a + j) = dep l 0 a + dep l a j
  | 0 => (Int.add_zero _).symm
  | j + 1 => by
    show dep l 0 (a + j) + opn (kd l (0 + (a + j))) = _
    rw [dep_add l a j, Nat.zero_add]
    show _ = dep l 0 a + (dep l a j + opn (kd l (a + j)))
    omega
theorem dep_1 (l : List (List Int)) (i : Nat) : dep l 0 (i + 1) = dep l 0 i + opn (kd l i) := by
  show dep l 0 i + opn (kd l (0 + i)) = _
  rw [Nat.zero_add]
/-- A jump leads over a balanced piece. -/
theorem kid_skip {l : List (List Int)} (hk : kidB l = true) {i : Nat} (hi : i < l.length) (h7 : kd l i = 7) : ∃ m : Nat, std.vget l (i : Int) 2 = (m : Int) ∧ i + 1 + m ≤ l.length ∧ m ≤ 20 ∧ dep l 0 (i + 1 + m) = dep l 0 i ∧ ∀ j, i < j → j ≤ i + 1 + m → dep l 0 i ≤ dep l 0 j := by
  have hl := kid_len hk
  unfold kidB codeB at hk
  simp only [Bool.and_eq_true] at hk
  obtain ⟨⟨_, hc, _⟩, _⟩ := hk
  have h1 := allB_at hc hi
  simp only [Bool.and_eq_true] at h1
  have ho : opB (std.vget l (i : Int) 0) (std.vget l (i : Int) 1) (std.vget l (i : Int) 2) (std.vget l (i : Int) 3) = true := h1.1
  have h7' : std.vget l (i : Int) 0 = 7 := h7
  rw [h7'] at ho
  have hb := op7 _ _ _ ho
  have h2 := h1.2.1
  unfold skS at h2
  rw [h7, show std.eq 7 7 = true from rfl, bt, Bool.and_eq_true] at h2
  obtain ⟨m, hm⟩ : ∃ m : Nat, std.vget l (i : Int) 2 = (m : Int) := ⟨(std.vget l (i : Int) 2).toNat, (Int.toNat_of_nonneg (by omega)).symm⟩
  rw [hm, Int.toNat_natCast, add1 (i := i) (by omega), addw (by omega) (by omega), Bool.not_eq_true', std_lt, std_vlen] at h2
  obtain ⟨h3, h4⟩ := h2
  have h3 := of_decide_eq_false h3
  unfold balB at h4
  rw [Bool.and_eq_true] at h4
  obtain ⟨h5, h6⟩ := h4
  have h6 : dep l (i + 1) m = 0 := eq_of_beq h6
  have d1 : dep l 0 (i + 1) = dep l 0 i := by rw [dep_1, h7]; exact Int.add_zero _
  refine ⟨m, hm, by omega, by omega, by rw [dep_add, h6, d1]; omega, fun j hj1 hj2 => ?_⟩
  obtain ⟨q, rfl⟩ : ∃ q, j = i + 1 + q := ⟨j - (i + 1), by omega⟩
  rw [dep_add, d1]
  cases q with
  | zero => show _ ≤ dep l 0 i + 0; omega
  | succ q =>
    have := allB_at h5 (show q < m by omega)
    rw [Bool.not_eq_true', std_lt] at this
    have := of_decide_eq_false this
    omega
/-! ## The way down to a depth -/
theorem down {f : Nat → Int} (h1 : ∀ n, f n - 1 ≤ f (n + 1)) {v : Int} : ∀ (m i : Nat), v < f i → f (i + m) ≤ v → ∃ z, i ≤ z ∧ z < i + m ∧ f (z + 1) = v ∧ ∀ j, i ≤ j → j ≤ z → v < f j
  | 0, i, ha, hb => by
    have hb : f i ≤ v := hb
    omega
  | m + 1, i, ha, hb => by
    by_cases hc : v < f (i + 1)
    · obtain ⟨z, z1, z2, z3, z4⟩ := down h1 m (i + 1) hc (by rw [show i + 1 + m = i + (m + 1) by omega]; exact hb)
      refine ⟨z, by omega, by omega, z3, fun j hj1 hj2 => ?_⟩
      by_cases he : j = i
      · subst he; exact ha
      · exact z4 j (by omega) hj2
    · have := h1 i
      refine ⟨i, Nat.le_refl _, by omega, by omega, fun j hj1 hj2 => ?_⟩
      obtain rfl : j = i := by omega
      exact ha
/-! ## EndOf -/
theorem EndOf_l {l : List (List Int)} (hl : l.length ≤ 24) {a z : Nat} (hz : z < l.length) (h1 : dep l a (z + 1 - a) = 0) (h2 : ∀ j, 0 < j → a + j ≤ z → dep l a j ≠ 0) (k : Int → R) (kx : Unit → R) : ∀ (m j N : Nat), a + j + m = z → m < N →
    spec_EndOf_l0 std N l (dep l a j) ((a + j : Nat) : Int) k kx = k (z : Int) ∧ impl_EndOf_l0 std (impl_within std) (impl_opens std) N l (dep l a j) ((a + j : Nat) : Int) k kx = k (z : Int)
  | m, j, 0, _, hN => absurd hN (Nat.not_lt_zero _)
  | m, j, N + 1, hm, hN => by
    have hi : a + j < l.length := by omega
    have r := dep_r l a j
    have r2 := opn_r (kd l (a + j))
    have dd : dep l a (j + 1) = dep l a j + opn (std.vget l ((a + j : Nat) : Int) 0) := rfl
    have ad : ∀ c : Int, -1 ≤ c → c ≤ 1 → std.add .i64 (dep l a j) c = dep l a j + c := fun c _ _ => addw (by omega) (by omega)
    have sb : std.sub .i64 (dep l a j) 1 = dep l a j + -1 := by rw [subw (by omega) (by omega)]; omega
    have key : (bif std.eq (dep l a (j + 1)) 0 then k ((a + j : Nat) : Int) else spec_EndOf_l0 std N l (dep l a (j + 1)) ((a + j + 1 : Nat) : Int) k kx) = k (z : Int) ∧
        (bif std.eq (dep l a (j + 1)) 0 then k ((a + j : Nat) : Int) else impl_EndOf_l0 std (impl_within std) (impl_opens std) N l (dep l a (j + 1)) ((a + j + 1 : Nat) : Int) k kx) = k (z : Int) := by
      cases m with
      | zero =>
        have e : j + 1 = z + 1 - a := by omega
        rw [e, h1, show a + j = z by omega]
        exact ⟨rfl, rfl⟩
      | succ m =>
        rw [eqn (h2 (j + 1) (by omega) (by omega)), bf, bf]
        exact EndOf_l hl hz h1 h2 k kx m (j + 1) N (by omega) (by omega)
    simp only [spec_EndOf_l0, impl_EndOf_l0, std_vlen, lt_nat_t hi, inb_nat_t hi, bt, opens_val, add1 (i := a + j) (by omega)]
    rw [dd] at key
    generalize std.vget l ((a + j : Nat) : Int) 0 = K at key r2
    have hr : -1 ≤ opn K ∧ opn K ≤ 1 := opn_r K
    refine ⟨?_, by rw [ad (opn K) hr.1 hr.2]; exact key.2⟩
    have key := key.1
    by_cases e8 : K = 8
    · subst e8
      rw [show std.eq 8 8 = true from rfl, show std.eq 8 9 = false from rfl]
      simp only [bt, bf, ad 1 (by omega) (by omega)]
      exact key
    · rw [eqn e8]
      by_cases e9 : K = 9
      · subst e9
        rw [show std.eq 9 9 = true from rfl]
        simp only [bt, bf, sb]
        exact key
      · rw [eqn e9]
        have : opn K = 0 := by unfold opn; rw [eqn e8, eqn e9]; rfl
        rw [this, Int.add_zero] at key
        simp only [bf]
        exact key
theorem EndOf_val {l : List (List Int)} (hl : l.length ≤ 24) {a z : Nat} (ha : a ≤ z) (hz : z < l.length) (h8 : kd l a = 8) (h1 : dep l 0 (z + 1) = dep l 0 a) (h2 : ∀ j, a < j → j ≤ z → dep l 0 j ≠ dep l 0 a) (k : Int → R) :
    spec_EndOf std l (a : Int) k = k (z : Int) ∧ impl_EndOf std l (a : Int) k = k (z : Int) := by
  have h8' : std.vget l (a : Int) 0 = 8 := h8
  have hai : a < l.length := by omega
  unfold spec_EndOf spec_EndOf_f impl_EndOf impl_EndOf_f
  generalize hF : std.fuel = N
  have hN : 4294967296 = N := hF
  have e1 : std.lt (a : Int) 0 = false := by rw [std_lt]; exact decide_eq_false (by omega)
  have e2 : std.le (l.length : Int) (a : Int) = false := by rw [std_le]; exact decide_eq_false (by omega)
  have e3 : std.sub .i64 (l.length : Int) 1 = (l.length : Int) - 1 := subw (by omega) (by omega)
  have e4 : inB (a : Int) 0 ((l.length : Int) - 1) = true := decide_eq_true (by omega)
  have d1 : dep l a (z + 1 - a) = 0 := by
    have := dep_add l a (z + 1 - a)
    rw [show a + (z + 1 - a) = z + 1 by omega] at this
    omega
  have d2 : ∀ j, 0 < j → a + j ≤ z → dep l a j ≠ 0 := fun j hj1 hj2 h => h2 (a + j) (by omega) hj2 (by rw [dep_add, h]; omega)
  have h := fun k kx => EndOf_l hl hz d1 d2 k kx (z - a) 0 N (by omega) (by omega)
  simp only [std_vlen, e1, e2, e3, e4, in_val', not_true', inb_nat_t hai, h8', show std.eq 8 8 = true from rfl, bt, bf]
  exact h (fun t => k t) (fun _ => k (-1))
end X
