/- Models of the functions, or plain laws about them; each theorem states its own conditions. -/
import Derived.Test.YtlcgddghildedaaMdl2
import Derived.Test.YtlcgddghildedaaQN1
import Derived.Test.YtlcgddghildedaaPlH
set_option linter.unusedVariables false
set_option linter.unusedSimpArgs false
open Go.Proofs
namespace X
open PM Go
theorem szRowS_v (a : List (List Int)) (h : a.length ≤ maxLen) (left : Int) (h0 : 0 ≤ left) (h1 : left ≤ 1048576) : ∃ v, v ≤ left ∧ (0 ≤ v → a.length ≤ 1048576) ∧ ∀ k, laws_szRowS std a left k = k v := by
  have hm : maxLen = 9223372036854775807 := by decide
  have e : std.sub .i64 left (a.length : Int) = left - a.length := by rw [std_sub]; exact i64_wrap (by omega) (by omega)
  unfold laws_szRowS laws_szRowS_f
  simp only [std_vlen, e, std_lt]
  by_cases hc : left - (a.length : Int) < 0
  · exact ⟨-1, by omega, fun h => by omega, fun k => by simp only [decide_eq_true hc, bt]⟩
  · exact ⟨left - a.length, by omega, fun _ => by omega, fun k => by simp only [decide_eq_false hc, bf]⟩
theorem toRowS_v (a : List (List Int)) (hb : a.length ≤ 1048576) (hw : ∀ r ∈ a, r.length = 2) (k : List (List Int) → R) : laws_toRowS std a k = k a := by
  unfold laws_toRowS laws_toRowS_f
  generalize hN : std.fuel = N
  have hN : 4294967296 = N := hN
  have e1 : std.mkOk (a.length : Int) = true := by rw [std_mkOk]; exact decide_eq_true (by omega)
  have e2 : std.le (a.length : Int) (a.length : Int) = true := by rw [std_le]; exact decide_eq_true (Int.le_refl _)
  simp only [std_vlen, e1, e2, bt, std_vzero, Int.toNat_natCast]
  have h := loop_fill (fun i => a.getD i []) ((List.replicate 2 0) : List Int) (len := a.length) (F := fun n i o => laws_toRowS_l0 std (laws_toRow std) n a i o (fun o => k o)) (kx := k) (N := N) (by omega) (fun n i o hi ho => ?_) (fun n o => ?_)
  · rw [h, range_getD]
  · simp only [laws_toRowS_l0, std_vlen, lt_nat_t hi, inb_nat_t hi, bt, ho, laws_toRow, laws_toRow_f, std_vget, std_vput, Int.toNat_natCast, row2 (hw _ (getD_mem hi)), add1 (i := i) (by omega)]
  · simp only [laws_toRowS_l0, std_vlen, lt_nat_f (Nat.le_refl _), bf]
theorem eqRowS_r (a : List (List Int)) (hb : a.length ≤ 1048576) (k : Bool → R) : laws_eqRowS std a a k = k true := by
  unfold laws_eqRowS laws_eqRowS_f
  generalize hN : std.fuel = N
  have hN : 4294967296 = N := hN
  have es : ∀ x : Int, std.not (std.eq x x) = false := fun x => by simp
  have lp : laws_eqRowS_l0 std (laws_eqRow std) N a a 0 (fun t => k t) (fun _ => k true) = k true := by
    refine loop_true (F := fun n i => laws_eqRowS_l0 std (laws_eqRow std) n a a i (fun t => k t) (fun _ => k true)) (len := a.length) (by omega) (fun n i hi => ?_) (fun n => ?_)
    · simp only [laws_eqRowS_l0, std_vlen, lt_nat_t hi, inb_nat_t hi, bt, bf, laws_eqRow, laws_eqRow_f, es, not_true', add1 (i := i) (by omega)]
    · simp only [laws_eqRowS_l0, std_vlen, lt_nat_f (Nat.le_refl _), bf]
  rw [es, bf, lp]
theorem szWrote_v (x_Stamp : Int) (x_Who : Int) (x_Puts : List (List Int)) (h_Puts : x_Puts.length ≤ maxLen) (left : Int) (l0 : 0 ≤ left) (l1 : left ≤ 1048576) : ∃ v, v ≤ left ∧ (0 ≤ v → x_Puts.length ≤ 1048576) ∧ ∀ k, laws_szWrote std x_Stamp x_Who x_Puts left k = k v := by
  obtain ⟨v0, a0, b0, k0⟩ := szRowS_v x_Puts h_Puts left l0 l1
  by_cases c0 : v0 < 0
  · exact ⟨-1, by omega, fun h => by omega, fun k => by simp only [laws_szWrote, laws_szWrote_f, k0, lt0_t c0, bt]⟩
  exact ⟨v0, by omega, fun _ => b0 (by omega), fun k => by simp only [laws_szWrote, laws_szWrote_f, k0, lt0_f c0, bf]⟩
theorem toWrote_v (x_Stamp : Int) (x_Who : Int) (x_Puts : List (List Int)) (h_Puts : x_Puts.length ≤ 1048576) (w_Puts : ∀ r ∈ x_Puts, r.length = 2) (k : (Int) → (Int) → (List (List Int)) → R) : laws_toWrote std x_Stamp x_Who x_Puts k = k x_Stamp x_Who x_Puts := by
  simp only [laws_toWrote, laws_toWrote_f, toRowS_v x_Puts h_Puts w_Puts]
theorem eqWrote_r (x_Stamp : Int) (x_Who : Int) (x_Puts : List (List Int)) (h_Puts : x_Puts.length ≤ 1048576) (k : Bool → R) : laws_eqWrote std x_Stamp x_Who x_Puts x_Stamp x_Who x_Puts k = k true := by
  have es : ∀ x : Int, std.not (std.eq x x) = false := fun x => by simp
  have eb : ∀ x : Bool, std.not (std.beq x x) = false := fun x => by simp
  simp only [laws_eqWrote, laws_eqWrote_f, es, eb, bt, bf, not_true', eqRowS_r x_Puts h_Puts]
def nWrote (a : List (List C)) (i : Nat) : List C := [.i (std.rint a (i : Int) 0), .i (std.rint a (i : Int) 1), .s (std.ofv (std.rsv 2 a (i : Int) 2))]
def nWroteS (a : List (List C)) : List (List C) := (List.range a.length).map (nWrote a)
def bWrote (a : List (List C)) (i : Nat) : Prop := (std.rsv 2 a (i : Int) 2).length ≤ 1048576
def bWroteS (a : List (List C)) : Prop := a.length ≤ 1048576 ∧ ∀ i, i < a.length → bWrote a i
theorem szWroteS_v (a : List (List C)) (h : FitArr cx (.rows 195 a)) (left : Int) (h0 : 0 ≤ left) (h1 : left ≤ 1048576) : ∃ v, v ≤ left ∧ (0 ≤ v → bWroteS a) ∧ ∀ k, laws_szWroteS std a left k = k v := by
  have hm : maxLen = 9223372036854775807 := by decide
  have hl := fit_len h
  have e : std.sub .i64 left (a.length : Int) = left - a.length := by rw [std_sub]; exact i64_wrap (by omega) (by omega)
  unfold laws_szWroteS laws_szWroteS_f
  simp only [std_rlen, e, std_lt]
  generalize hN : std.fuel = N
  have hN : 4294967296 = N := hN
  by_cases hc : left - (a.length : Int) < 0
  · exact ⟨-1, by omega, fun h => by omega, fun k => by simp only [decide_eq_true hc, bt]⟩
  · have hs : ∀ i left, i < a.length → 0 ≤ left → left ≤ 1048576 → ∃ v, v ≤ left ∧ (0 ≤ v → bWrote a i) ∧ ∀ k n, laws_szWroteS_l0 std (laws_szWrote std) (n + 1) a left (i : Int) k k = bif std.lt v 0 then k (-1) else laws_szWroteS_l0 std (laws_szWrote std) n a v ((i + 1 : Nat) : Int) k k := fun i left hi l0 l1 => by
      obtain ⟨v, v1, v2, v3⟩ := szWrote_v (std.rint a (i : Int) 0) (std.rint a (i : Int) 1) (std.rsv 2 a (i : Int) 2) (fit_rsv h rfl hi (j := 2) (by decide) rfl rfl rfl).1 left l0 l1
      exact ⟨v, v1, v2, fun k n => by simp only [laws_szWroteS_l0, std_rlen, lt_nat_t hi, inb_nat_t hi, bt, v3, add1 (i := i) (by omega)]⟩
    have he : ∀ (k : Int → R) n left, laws_szWroteS_l0 std (laws_szWrote std) (n + 1) a left (a.length : Int) k k = k left := fun k n left => by simp only [laws_szWroteS_l0, std_rlen, lt_nat_f (Nat.le_refl _), bf]
    obtain ⟨v, v1, v2, v3⟩ := loop_left (F := fun k n i left => laws_szWroteS_l0 std (laws_szWrote std) n a left i k k) (P := bWrote a) (len := a.length) (N := N) (by omega) hs he (left - a.length) (by omega) (by omega)
    exact ⟨v, by omega, fun h => ⟨by omega, v2 h⟩, fun k => by simp only [decide_eq_false hc, bf]; exact v3 k⟩
theorem toWroteS_v (a : List (List C)) (h : bWroteS a) (k : List (List C) → R) : laws_toWroteS std a k = k (nWroteS a) := by
  have hb := h.1
  unfold laws_toWroteS laws_toWroteS_f
  generalize hN : std.fuel = N
  have hN : 4294967296 = N := hN
  have e1 : std.mkOk (a.length : Int) = true := by rw [std_mkOk]; exact decide_eq_true (by omega)
  have e2 : std.le (a.length : Int) (a.length : Int) = true := by rw [std_le]; exact decide_eq_true (Int.le_refl _)
  simp only [std_rlen, e1, e2, bt, std_rzero, Int.toNat_natCast]
  refine loop_fill (nWrote a) _ (len := a.length) (F := fun n i o => laws_toWroteS_l0 std (laws_toWrote std) n a i o (fun o => k o)) (kx := k) (N := N) (by omega) (fun n i o hi ho => ?_) (fun n o => ?_)
  · have hv := fun kk => toWrote_v (std.rint a (i : Int) 0) (std.rint a (i : Int) 1) (std.rsv 2 a (i : Int) 2) (h.2 i hi) (rsv_wide _ _ _ _) (k := kk)
    simp only [laws_toWroteS_l0, std_rlen, lt_nat_t hi, inb_nat_t hi, bt, ho, hv, std_rput, Int.toNat_natCast, add1 (i := i) (by omega)]
    try rfl
  · simp only [laws_toWroteS_l0, std_rlen, lt_nat_f (Nat.le_refl _), bf]
theorem rdWrote_2 (a : List (List C)) (i : Nat) (hi : i < a.length) : (std.rsv 2 (nWroteS a) (i : Int) 2) = (std.rsv 2 a (i : Int) 2) := by
  show ((asRows (cOf (nWroteS a) (i : Int).toNat 2)).map fun r => (List.range 2).map fun q => asInt (cAt r q)) = _
  rw [Int.toNat_natCast, nWroteS, cOf_fill _ hi]
  exact rsv_cell (rsv_wide _ _ _ _)
theorem lenWroteS (a : List (List C)) : (nWroteS a).length = a.length := by simp [nWroteS]
theorem bWroteS_n (a : List (List C)) (h : bWroteS a) : bWroteS (nWroteS a) := ⟨by rw [lenWroteS]; exact h.1, fun i hi => by
  rw [lenWroteS] at hi
  exact (by unfold bWrote; rw [rdWrote_2 a i hi]; exact h.2 i hi)⟩
theorem eqWroteS_r (a : List (List C)) (h : bWroteS a) (k : Bool → R) : laws_eqWroteS std a a k = k true := by
  have hb := h.1
  unfold laws_eqWroteS laws_eqWroteS_f
  generalize hN : std.fuel = N
  have hN : 4294967296 = N := hN
  have es : ∀ x : Int, std.not (std.eq x x) = false := fun x => by simp
  have lp : laws_eqWroteS_l0 std (laws_eqWrote std) N a a 0 (fun t => k t) (fun _ => k true) = k true := by
    refine loop_true (F := fun n i => laws_eqWroteS_l0 std (laws_eqWrote std) n a a i (fun t => k t) (fun _ => k true)) (len := a.length) (by omega) (fun n i hi => ?_) (fun n => ?_)
    · have hv := fun kk => eqWrote_r (std.rint a (i : Int) 0) (std.rint a (i : Int) 1) (std.rsv 2 a (i : Int) 2) (h.2 i hi) (k := kk)
      simp only [laws_eqWroteS_l0, std_rlen, lt_nat_t hi, inb_nat_t hi, bt, bf, hv, not_true', add1 (i := i) (by omega)]
    · simp only [laws_eqWroteS_l0, std_rlen, lt_nat_f (Nat.le_refl _), bf]
  rw [es, bf, lp]
end X
