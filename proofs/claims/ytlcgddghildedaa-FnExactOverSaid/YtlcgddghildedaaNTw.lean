/- Models of the functions, or plain laws about them; each theorem states its own conditions. -/
import Derived.Test.YtlcgddghildedaaMdl2
import Derived.Test.YtlcgddghildedaaQN1
import Derived.Test.YtlcgddghildedaaPlH
set_option linter.unusedVariables false
set_option linter.unusedSimpArgs false
open Go.Proofs
namespace X
open PM Go
theorem szWordS_v (a : List (List Int)) (h : a.length ≤ maxLen) (left : Int) (h0 : 0 ≤ left) (h1 : left ≤ 1048576) : ∃ v, v ≤ left ∧ (0 ≤ v → a.length ≤ 1048576) ∧ ∀ k, laws_szWordS std a left k = k v := by
  have hm : maxLen = 9223372036854775807 := by decide
  have e : std.sub .i64 left (a.length : Int) = left - a.length := by rw [std_sub]; exact i64_wrap (by omega) (by omega)
  unfold laws_szWordS laws_szWordS_f
  simp only [std_vlen, e, std_lt]
  by_cases hc : left - (a.length : Int) < 0
  · exact ⟨-1, by omega, fun h => by omega, fun k => by simp only [decide_eq_true hc, bt]⟩
  · exact ⟨left - a.length, by omega, fun _ => by omega, fun k => by simp only [decide_eq_false hc, bf]⟩
theorem toWordS_v (a : List (List Int)) (hb : a.length ≤ 1048576) (hw : ∀ r ∈ a, r.length = 3) (k : List (List Int) → R) : laws_toWordS std a k = k a := by
  unfold laws_toWordS laws_toWordS_f
  generalize hN : std.fuel = N
  have hN : 4294967296 = N := hN
  have e1 : std.mkOk (a.length : Int) = true := by rw [std_mkOk]; exact decide_eq_true (by omega)
  have e2 : std.le (a.length : Int) (a.length : Int) = true := by rw [std_le]; exact decide_eq_true (Int.le_refl _)
  simp only [std_vlen, e1, e2, bt, std_vzero, Int.toNat_natCast]
  have h := loop_fill (fun i => a.getD i []) ((List.replicate 3 0) : List Int) (len := a.length) (F := fun n i o => laws_toWordS_l0 std (laws_toWord std) n a i o (fun o => k o)) (kx := k) (N := N) (by omega) (fun n i o hi ho => ?_) (fun n o => ?_)
  · rw [h, range_getD]
  · simp only [laws_toWordS_l0, std_vlen, lt_nat_t hi, inb_nat_t hi, bt, ho, laws_toWord, laws_toWord_f, std_vget, std_vput, Int.toNat_natCast, row3 (hw _ (getD_mem hi)), add1 (i := i) (by omega)]
  · simp only [laws_toWordS_l0, std_vlen, lt_nat_f (Nat.le_refl _), bf]
theorem eqWordS_r (a : List (List Int)) (hb : a.length ≤ 1048576) (k : Bool → R) : laws_eqWordS std a a k = k true := by
  unfold laws_eqWordS laws_eqWordS_f
  generalize hN : std.fuel = N
  have hN : 4294967296 = N := hN
  have es : ∀ x : Int, std.not (std.eq x x) = false := fun x => by simp
  have lp : laws_eqWordS_l0 std (laws_eqWord std) N a a 0 (fun t => k t) (fun _ => k true) = k true := by
    refine loop_true (F := fun n i => laws_eqWordS_l0 std (laws_eqWord std) n a a i (fun t => k t) (fun _ => k true)) (len := a.length) (by omega) (fun n i hi => ?_) (fun n => ?_)
    · simp only [laws_eqWordS_l0, std_vlen, lt_nat_t hi, inb_nat_t hi, bt, bf, laws_eqWord, laws_eqWord_f, es, not_true', add1 (i := i) (by omega)]
    · simp only [laws_eqWordS_l0, std_vlen, lt_nat_f (Nat.le_refl _), bf]
  rw [es, bf, lp]
theorem szMem_v (x_Clock : Int) (x_Cells : List (List Int)) (h_Cells : x_Cells.length ≤ maxLen) (left : Int) (l0 : 0 ≤ left) (l1 : left ≤ 1048576) : ∃ v, v ≤ left ∧ (0 ≤ v → x_Cells.length ≤ 1048576) ∧ ∀ k, laws_szMem std x_Clock x_Cells left k = k v := by
  obtain ⟨v0, a0, b0, k0⟩ := szWordS_v x_Cells h_Cells left l0 l1
  by_cases c0 : v0 < 0
  · exact ⟨-1, by omega, fun h => by omega, fun k => by simp only [laws_szMem, laws_szMem_f, k0, lt0_t c0, bt]⟩
  exact ⟨v0, by omega, fun _ => b0 (by omega), fun k => by simp only [laws_szMem, laws_szMem_f, k0, lt0_f c0, bf]⟩
theorem toMem_v (x_Clock : Int) (x_Cells : List (List Int)) (h_Cells : x_Cells.length ≤ 1048576) (w_Cells : ∀ r ∈ x_Cells, r.length = 3) (k : (Int) → (List (List Int)) → R) : laws_toMem std x_Clock x_Cells k = k x_Clock x_Cells := by
  simp only [laws_toMem, laws_toMem_f, toWordS_v x_Cells h_Cells w_Cells]
theorem eqMem_r (x_Clock : Int) (x_Cells : List (List Int)) (h_Cells : x_Cells.length ≤ 1048576) (k : Bool → R) : laws_eqMem std x_Clock x_Cells x_Clock x_Cells k = k true := by
  have es : ∀ x : Int, std.not (std.eq x x) = false := fun x => by simp
  have eb : ∀ x : Bool, std.not (std.beq x x) = false := fun x => by simp
  simp only [laws_eqMem, laws_eqMem_f, es, eb, bt, bf, not_true', eqWordS_r x_Cells h_Cells]
theorem szIntS_v (a : List Int) (h : a.length ≤ maxLen) (left : Int) (h0 : 0 ≤ left) (h1 : left ≤ 1048576) : ∃ v, v ≤ left ∧ (0 ≤ v → a.length ≤ 1048576) ∧ ∀ k, laws_szIntS std a left k = k v := by
  have hm : maxLen = 9223372036854775807 := by decide
  have e : std.sub .i64 left (a.length : Int) = left - a.length := by rw [std_sub]; exact i64_wrap (by omega) (by omega)
  unfold laws_szIntS laws_szIntS_f
  simp only [std_ilen, e, std_lt]
  by_cases hc : left - (a.length : Int) < 0
  · exact ⟨-1, by omega, fun h => by omega, fun k => by simp only [decide_eq_true hc, bt]⟩
  · exact ⟨left - a.length, by omega, fun _ => by omega, fun k => by simp only [decide_eq_false hc, bf]⟩
theorem toIntS_v (a : List Int) (hb : a.length ≤ 1048576) (k : List Int → R) : laws_toIntS std a k = k a := by
  unfold laws_toIntS laws_toIntS_f
  generalize hN : std.fuel = N
  have hN : 4294967296 = N := hN
  have e1 : std.mkOk (a.length : Int) = true := by rw [std_mkOk]; exact decide_eq_true (by omega)
  have e2 : std.le (a.length : Int) (a.length : Int) = true := by rw [std_le]; exact decide_eq_true (Int.le_refl _)
  simp only [std_ilen, e1, e2, bt, std_izero, Int.toNat_natCast]
  have h := loop_fill (fun i => a.getD i 0) (0 : Int) (len := a.length) (F := fun n i o => laws_toIntS_l0 std n a i o (fun o => k o)) (kx := k) (N := N) (by omega) (fun n i o hi ho => ?_) (fun n o => ?_)
  · rw [h, range_getD]
  · simp only [laws_toIntS_l0, std_ilen, lt_nat_t hi, inb_nat_t hi, bt, ho, std_iget, std_iset, Int.toNat_natCast, add1 (i := i) (by omega)]
  · simp only [laws_toIntS_l0, std_ilen, lt_nat_f (Nat.le_refl _), bf]
theorem eqIntS_r (a : List Int) (hb : a.length ≤ 1048576) (k : Bool → R) : laws_eqIntS std a a k = k true := by
  unfold laws_eqIntS laws_eqIntS_f
  generalize hN : std.fuel = N
  have hN : 4294967296 = N := hN
  have es : ∀ x : Int, std.not (std.eq x x) = false := fun x => by simp
  have lp : laws_eqIntS_l0 std N a a 0 (fun t => k t) (fun _ => k true) = k true := by
    refine loop_true (F := fun n i => laws_eqIntS_l0 std n a a i (fun t => k t) (fun _ => k true)) (len := a.length) (by omega) (fun n i hi => ?_) (fun n => ?_)
    · simp only [laws_eqIntS_l0, std_ilen, lt_nat_t hi, inb_nat_t hi, bt, bf, std_iget, es, add1 (i := i) (by omega)]
    · simp only [laws_eqIntS_l0, std_ilen, lt_nat_f (Nat.le_refl _), bf]
  rw [es, bf, lp]
theorem szShelf_v (x_Slots : List Int) (x_Count : Int) (h_Slots : x_Slots.length ≤ maxLen) (left : Int) (l0 : 0 ≤ left) (l1 : left ≤ 1048576) : ∃ v, v ≤ left ∧ (0 ≤ v → x_Slots.length ≤ 1048576) ∧ ∀ k, laws_szShelf std x_Slots x_Count left k = k v := by
  obtain ⟨v0, a0, b0, k0⟩ := szIntS_v x_Slots h_Slots left l0 l1
  by_cases c0 : v0 < 0
  · exact ⟨-1, by omega, fun h => by omega, fun k => by simp only [laws_szShelf, laws_szShelf_f, k0, lt0_t c0, bt]⟩
  exact ⟨v0, by omega, fun _ => b0 (by omega), fun k => by simp only [laws_szShelf, laws_szShelf_f, k0, lt0_f c0, bf]⟩
theorem toShelf_v (x_Slots : List Int) (x_Count : Int) (h_Slots : x_Slots.length ≤ 1048576) (k : (List Int) → (Int) → R) : laws_toShelf std x_Slots x_Count k = k x_Slots x_Count := by
  simp only [laws_toShelf, laws_toShelf_f, toIntS_v x_Slots h_Slots]
theorem eqShelf_r (x_Slots : List Int) (x_Count : Int) (h_Slots : x_Slots.length ≤ 1048576) (k : Bool → R) : laws_eqShelf std x_Slots x_Count x_Slots x_Count k = k true := by
  have es : ∀ x : Int, std.not (std.eq x x) = false := fun x => by simp
  have eb : ∀ x : Bool, std.not (std.beq x x) = false := fun x => by simp
  simp only [laws_eqShelf, laws_eqShelf_f, es, eb, bt, bf, not_true', eqIntS_r x_Slots h_Slots]
theorem szHoldS_v (a : List (List Int)) (h : a.length ≤ maxLen) (left : Int) (h0 : 0 ≤ left) (h1 : left ≤ 1048576) : ∃ v, v ≤ left ∧ (0 ≤ v → a.length ≤ 1048576) ∧ ∀ k, laws_szHoldS std a left k = k v := by
  have hm : maxLen = 9223372036854775807 := by decide
  have e : std.sub .i64 left (a.length : Int) = left - a.length := by rw [std_sub]; exact i64_wrap (by omega) (by omega)
  unfold laws_szHoldS laws_szHoldS_f
  simp only [std_vlen, e, std_lt]
  by_cases hc : left - (a.length : Int) < 0
  · exact ⟨-1, by omega, fun h => by omega, fun k => by simp only [decide_eq_true hc, bt]⟩
  · exact ⟨left - a.length, by omega, fun _ => by omega, fun k => by simp only [decide_eq_false hc, bf]⟩
theorem toHoldS_v (a : List (List Int)) (hb : a.length ≤ 1048576) (hw : ∀ r ∈ a, r.length = 3) (k : List (List Int) → R) : laws_toHoldS std a k = k a := by
  unfold laws_toHoldS laws_toHoldS_f
  generalize hN : std.fuel = N
  have hN : 4294967296 = N := hN
  have e1 : std.mkOk (a.length : Int) = true := by rw [std_mkOk]; exact decide_eq_true (by omega)
  have e2 : std.le (a.length : Int) (a.length : Int) = true := by rw [std_le]; exact decide_eq_true (Int.le_refl _)
  simp only [std_vlen, e1, e2, bt, std_vzero, Int.toNat_natCast]
  have h := loop_fill (fun i => a.getD i []) ((List.replicate 3 0) : List Int) (len := a.length) (F := fun n i o => laws_toHoldS_l0 std (laws_toHold std) n a i o (fun o => k o)) (kx := k) (N := N) (by omega) (fun n i o hi ho => ?_) (fun n o => ?_)
  · rw [h, range_getD]
  · simp only [laws_toHoldS_l0, std_vlen, lt_nat_t hi, inb_nat_t hi, bt, ho, laws_toHold, laws_toHold_f, std_vget, std_vput, Int.toNat_natCast, row3 (hw _ (getD_mem hi)), add1 (i := i) (by omega)]
  · simp only [laws_toHoldS_l0, std_vlen, lt_nat_f (Nat.le_refl _), bf]
theorem eqHoldS_r (a : List (List Int)) (hb : a.length ≤ 1048576) (k : Bool → R) : laws_eqHoldS std a a k = k true := by
  unfold laws_eqHoldS laws_eqHoldS_f
  generalize hN : std.fuel = N
  have hN : 4294967296 = N := hN
  have es : ∀ x : Int, std.not (std.eq x x) = false := fun x => by simp
  have lp : laws_eqHoldS_l0 std (laws_eqHold std) N a a 0 (fun t => k t) (fun _ => k true) = k true := by
    refine loop_true (F := fun n i => laws_eqHoldS_l0 std (laws_eqHold std) n a a i (fun t => k t) (fun _ => k true)) (len := a.length) (by omega) (fun n i hi => ?_) (fun n => ?_)
    · simp only [laws_eqHoldS_l0, std_vlen, lt_nat_t hi, inb_nat_t hi, bt, bf, laws_eqHold, laws_eqHold_f, es, not_true', add1 (i := i) (by omega)]
    · simp only [laws_eqHoldS_l0, std_vlen, lt_nat_f (Nat.le_refl _), bf]
  rw [es, bf, lp]
theorem szRowS_v (a : List (List Int)) (h : a.length ≤ maxLen) (left : Int) (h0 : 0 ≤ left) (h1 : left ≤ 1048576) : ∃ v, v ≤ left ∧ (0 ≤ v → a.length ≤ 1048576) ∧ ∀ k, laws_szRowS std a left k = k v := by
  have hm : maxLen = 9223372036854775807 := by decide
  have e : std.sub .i64 left (a.length : Int) = left - a.length := by rw [std_sub]; exact i64_wrap (by omega) (by omega)
  unfold laws_szRowS laws_szRowS_f
  simp only [std_vlen, e, std_lt]
  by_cases hc : left - (a.length : Int) < 0
  · exact ⟨-1, by omega, fun h => by omega, fun k => by simp only [decide_eq_true hc, bt]⟩
  · exact ⟨left - a.length, by omega, fun _ => by omega, fun k => by simp only [decide_eq_false hc, bf]⟩
theorem toRowS_v (a : List (List Int)) (hb : a.length ≤ 1048576) (hw : ∀ r ∈ a, r.length = 2) (k : List (List Int) → R) : laws_toRowS std a k = k a := by
  unfold laws_toRowS laws_toRowS_f
  generalize hN : std.fuel = N
  have hN : 4294967296 = N := hN
  have e1 : std.mkOk (a.length : Int) = true := by rw [std_mkOk]; exact decide_eq_true (by omega)
  have e2 : std.le (a.length : Int) (a.length : Int) = true := by rw [std_le]; exact decide_eq_true (Int.le_refl _)
  simp only [std_vlen, e1, e2, bt, std_vzero, Int.toNat_natCast]
  have h := loop_fill (fun i => a.getD i []) ((List.replicate 2 0) : List Int) (len := a.length) (F := fun n i o => laws_toRowS_l0 std (laws_toRow std) n a i o (fun o => k o)) (kx := k) (N := N) (by omega) (fun n i o hi ho => ?_) (fun n o => ?_)
  · rw [h, range_getD]
  · simp only [laws_toRowS_l0, std_vlen, lt_nat_t hi, inb_nat_t hi, bt, ho, laws_toRow, laws_toRow_f, std_vget, std_vput, Int.toNat_natCast, row2 (hw _ (getD_mem hi)), add1 (i := i) (by omega)]
  · simp only [laws_toRowS_l0, std_vlen, lt_nat_f (Nat.le_refl _), bf]
theorem eqRowS_r (a : List (List Int)) (hb : a.length ≤ 1048576) (k : Bool → R) : laws_eqRowS std a a k = k true := by
  unfold laws_eqRowS laws_eqRowS_f
  generalize hN : std.fuel = N
  have hN : 4294967296 = N := hN
  have es : ∀ x : Int, std.not (std.eq x x) = false := fun x => by simp
  have lp : laws_eqRowS_l0 std (laws_eqRow std) N a a 0 (fun t => k t) (fun _ => k true) = k true := by
    refine loop_true (F := fun n i => laws_eqRowS_l0 std (laws_eqRow std) n a a i (fun t => k t) (fun _ => k true)) (len := a.length) (by omega) (fun n i hi => ?_) (fun n => ?_)
    · simp only [laws_eqRowS_l0, std_vlen, lt_nat_t hi, inb_nat_t hi, bt, bf, laws_eqRow, laws_eqRow_f, es, not_true', add1 (i := i) (by omega)]
    · simp only [laws_eqRowS_l0, std_vlen, lt_nat_f (Nat.le_refl _), bf]
  rw [es, bf, lp]
theorem szMark_v (x_Pc : Int) (x_Reads : Int) (x_Writes : Int) (x_Undos : Int) (x_Regs : List Int) (h_Regs : x_Regs.length ≤ maxLen) (left : Int) (l0 : 0 ≤ left) (l1 : left ≤ 1048576) : ∃ v, v ≤ left ∧ (0 ≤ v → x_Regs.length ≤ 1048576) ∧ ∀ k, laws_szMark std x_Pc x_Reads x_Writes x_Undos x_Regs left k = k v := by
  obtain ⟨v0, a0, b0, k0⟩ := szIntS_v x_Regs h_Regs left l0 l1
  by_cases c0 : v0 < 0
  · exact ⟨-1, by omega, fun h => by omega, fun k => by simp only [laws_szMark, laws_szMark_f, k0, lt0_t c0, bt]⟩
  exact ⟨v0, by omega, fun _ => b0 (by omega), fun k => by simp only [laws_szMark, laws_szMark_f, k0, lt0_f c0, bf]⟩
theorem toMark_v (x_Pc : Int) (x_Reads : Int) (x_Writes : Int) (x_Undos : Int) (x_Regs : List Int) (h_Regs : x_Regs.length ≤ 1048576) (k : (Int) → (Int) → (Int) → (Int) → (List Int) → R) : laws_toMark std x_Pc x_Reads x_Writes x_Undos x_Regs k = k x_Pc x_Reads x_Writes x_Undos x_Regs := by
  simp only [laws_toMark, laws_toMark_f, toIntS_v x_Regs h_Regs]
theorem eqMark_r (x_Pc : Int) (x_Reads : Int) (x_Writes : Int) (x_Undos : Int) (x_Regs : List Int) (h_Regs : x_Regs.length ≤ 1048576) (k : Bool → R) : laws_eqMark std x_Pc x_Reads x_Writes x_Undos x_Regs x_Pc x_Reads x_Writes x_Undos x_Regs k = k true := by
  have es : ∀ x : Int, std.not (std.eq x x) = false := fun x => by simp
  have eb : ∀ x : Bool, std.not (std.beq x x) = false := fun x => by simp
  simp only [laws_eqMark, laws_eqMark_f, es, eb, bt, bf, not_true', eqIntS_r x_Regs h_Regs]
def nMark (a : List (List C)) (i : Nat) : List C := [.i (std.rint a (i : Int) 0), .i (std.rint a (i : Int) 1), .i (std.rint a (i : Int) 2), .i (std.rint a (i : Int) 3), .s (std.ofi (std.rsi a (i : Int) 4))]
def nMarkS (a : List (List C)) : List (List C) := (List.range a.length).map (nMark a)
def bMark (a : List (List C)) (i : Nat) : Prop := (std.rsi a (i : Int) 4).length ≤ 1048576
def bMarkS (a : List (List C)) : Prop := a.length ≤ 1048576 ∧ ∀ i, i < a.length → bMark a i
theorem szMarkS_v (a : List (List C)) (h : FitArr cx (.rows 395 a)) (left : Int) (h0 : 0 ≤ left) (h1 : left ≤ 1048576) : ∃ v, v ≤ left ∧ (0 ≤ v → bMarkS a) ∧ ∀ k, laws_szMarkS std a left k = k v := by
  have hm : maxLen = 9223372036854775807 := by decide
  have hl := fit_len h
  have e : std.sub .i64 left (a.length : Int) = left - a.length := by rw [std_sub]; exact i64_wrap (by omega) (by omega)
  unfold laws_szMarkS laws_szMarkS_f
  simp only [std_rlen, e, std_lt]
  generalize hN : std.fuel = N
  have hN : 4294967296 = N := hN
  by_cases hc : left - (a.length : Int) < 0
  · exact ⟨-1, by omega, fun h => by omega, fun k => by simp only [decide_eq_true hc, bt]⟩
  · have hs : ∀ i left, i < a.length → 0 ≤ left → left ≤ 1048576 → ∃ v, v ≤ left ∧ (0 ≤ v → bMark a i) ∧ ∀ k n, laws_szMarkS_l0 std (laws_szMark std) (n + 1) a left (i : Int) k k = bif std.lt v 0 then k (-1) else laws_szMarkS_l0 std (laws_szMark std) n a v ((i + 1 : Nat) : Int) k k := fun i left hi l0 l1 => by
      obtain ⟨v, v1, v2, v3⟩ := szMark_v (std.rint a (i : Int) 0) (std.rint a (i : Int) 1) (std.rint a (i : Int) 2) (std.rint a (i : Int) 3) (std.rsi a (i : Int) 4) (fit_rsi h rfl hi (j := 4) (by decide) rfl rfl rfl).1 left l0 l1
      exact ⟨v, v1, v2, fun k n => by simp only [laws_szMarkS_l0, std_rlen, lt_nat_t hi, inb_nat_t hi, bt, v3, add1 (i := i) (by omega)]⟩
    have he : ∀ (k : Int → R) n left, laws_szMarkS_l0 std (laws_szMark std) (n + 1) a left (a.length : Int) k k = k left := fun k n left => by simp only [laws_szMarkS_l0, std_rlen, lt_nat_f (Nat.le_refl _), bf]
    obtain ⟨v, v1, v2, v3⟩ := loop_left (F := fun k n i left => laws_szMarkS_l0 std (laws_szMark std) n a left i k k) (P := bMark a) (len := a.length) (N := N) (by omega) hs he (left - a.length) (by omega) (by omega)
    exact ⟨v, by omega, fun h => ⟨by omega, v2 h⟩, fun k => by simp only [decide_eq_false hc, bf]; exact v3 k⟩
theorem toMarkS_v (a : List (List C)) (h : bMarkS a) (k : List (List C) → R) : laws_toMarkS std a k = k (nMarkS a) := by
  have hb := h.1
  unfold laws_toMarkS laws_toMarkS_f
  generalize hN : std.fuel = N
  have hN : 4294967296 = N := hN
  have e1 : std.mkOk (a.length : Int) = true := by rw [std_mkOk]; exact decide_eq_true (by omega)
  have e2 : std.le (a.length : Int) (a.length : Int) = true := by rw [std_le]; exact decide_eq_true (Int.le_refl _)
  simp only [std_rlen, e1, e2, bt, std_rzero, Int.toNat_natCast]
  refine loop_fill (nMark a) _ (len := a.length) (F := fun n i o => laws_toMarkS_l0 std (laws_toMark std) n a i o (fun o => k o)) (kx := k) (N := N) (by omega) (fun n i o hi ho => ?_) (fun n o => ?_)
  · have hv := fun kk => toMark_v (std.rint a (i : Int) 0) (std.rint a (i : Int) 1) (std.rint a (i : Int) 2) (std.rint a (i : Int) 3) (std.rsi a (i : Int) 4) (h.2 i hi) (k := kk)
    simp only [laws_toMarkS_l0, std_rlen, lt_nat_t hi, inb_nat_t hi, bt, ho, hv, std_rput, Int.toNat_natCast, add1 (i := i) (by omega)]
    try rfl
  · simp only [laws_toMarkS_l0, std_rlen, lt_nat_f (Nat.le_refl _), bf]
theorem rdMark_4 (a : List (List C)) (i : Nat) (hi : i < a.length) : (std.rsi (nMarkS a) (i : Int) 4) = (std.rsi a (i : Int) 4) := by
  show ((asRows (cOf (nMarkS a) (i : Int).toNat 4)).map fun r => asInt (cAt r 0)) = _
  rw [Int.toNat_natCast, nMarkS, cOf_fill _ hi]
  exact rsi_cell _
theorem lenMarkS (a : List (List C)) : (nMarkS a).length = a.length := by simp [nMarkS]
theorem bMarkS_n (a : List (List C)) (h : bMarkS a) : bMarkS (nMarkS a) := ⟨by rw [lenMarkS]; exact h.1, fun i hi => by
  rw [lenMarkS] at hi
  exact (by unfold bMark; rw [rdMark_4 a i hi]; exact h.2 i hi)⟩
theorem eqMarkS_r (a : List (List C)) (h : bMarkS a) (k : Bool → R) : laws_eqMarkS std a a k = k true := by
  have hb := h.1
  unfold laws_eqMarkS laws_eqMarkS_f
  generalize hN : std.fuel = N
  have hN : 4294967296 = N := hN
  have es : ∀ x : Int, std.not (std.eq x x) = false := fun x => by simp
  have lp : laws_eqMarkS_l0 std (laws_eqMark std) N a a 0 (fun t => k t) (fun _ => k true) = k true := by
    refine loop_true (F := fun n i => laws_eqMarkS_l0 std (laws_eqMark std) n a a i (fun t => k t) (fun _ => k true)) (len := a.length) (by omega) (fun n i hi => ?_) (fun n => ?_)
    · have hv := fun kk => eqMark_r (std.rint a (i : Int) 0) (std.rint a (i : Int) 1) (std.rint a (i : Int) 2) (std.rint a (i : Int) 3) (std.rsi a (i : Int) 4) (h.2 i hi) (k := kk)
      simp only [laws_eqMarkS_l0, std_rlen, lt_nat_t hi, inb_nat_t hi, bt, bf, hv, not_true', add1 (i := i) (by omega)]
    · simp only [laws_eqMarkS_l0, std_rlen, lt_nat_f (Nat.le_refl _), bf]
  rw [es, bf, lp]
theorem szUndoS_v (a : List (List Int)) (h : a.length ≤ maxLen) (left : Int) (h0 : 0 ≤ left) (h1 : left ≤ 1048576) : ∃ v, v ≤ left ∧ (0 ≤ v → a.length ≤ 1048576) ∧ ∀ k, laws_szUndoS std a left k = k v := by
  have hm : maxLen = 9223372036854775807 := by decide
  have e : std.sub .i64 left (a.length : Int) = left - a.length := by rw [std_sub]; exact i64_wrap (by omega) (by omega)
  unfold laws_szUndoS laws_szUndoS_f
  simp only [std_vlen, e, std_lt]
  by_cases hc : left - (a.length : Int) < 0
  · exact ⟨-1, by omega, fun h => by omega, fun k => by simp only [decide_eq_true hc, bt]⟩
  · exact ⟨left - a.length, by omega, fun _ => by omega, fun k => by simp only [decide_eq_false hc, bf]⟩
theorem toUndoS_v (a : List (List Int)) (hb : a.length ≤ 1048576) (hw : ∀ r ∈ a, r.length = 3) (k : List (List Int) → R) : laws_toUndoS std a k = k a := by
  unfold laws_toUndoS laws_toUndoS_f
  generalize hN : std.fuel = N
  have hN : 4294967296 = N := hN
  have e1 : std.mkOk (a.length : Int) = true := by rw [std_mkOk]; exact decide_eq_true (by omega)
  have e2 : std.le (a.length : Int) (a.length : Int) = true := by rw [std_le]; exact decide_eq_true (Int.le_refl _)
  simp only [std_vlen, e1, e2, bt, std_vzero, Int.toNat_natCast]
  have h := loop_fill (fun i => a.getD i []) ((List.replicate 3 0) : List Int) (len := a.length) (F := fun n i o => laws_toUndoS_l0 std (laws_toUndo std) n a i o (fun o => k o)) (kx := k) (N := N) (by omega) (fun n i o hi ho => ?_) (fun n o => ?_)
  · rw [h, range_getD]
  · simp only [laws_toUndoS_l0, std_vlen, lt_nat_t hi, inb_nat_t hi, bt, ho, laws_toUndo, laws_toUndo_f, std_vget, std_vput, Int.toNat_natCast, row3 (hw _ (getD_mem hi)), add1 (i := i) (by omega)]
  · simp only [laws_toUndoS_l0, std_vlen, lt_nat_f (Nat.le_refl _), bf]
theorem eqUndoS_r (a : List (List Int)) (hb : a.length ≤ 1048576) (k : Bool → R) : laws_eqUndoS std a a k = k true := by
  unfold laws_eqUndoS laws_eqUndoS_f
  generalize hN : std.fuel = N
  have hN : 4294967296 = N := hN
  have es : ∀ x : Int, std.not (std.eq x x) = false := fun x => by simp
  have lp : laws_eqUndoS_l0 std (laws_eqUndo std) N a a 0 (fun t => k t) (fun _ => k true) = k true := by
    refine loop_true (F := fun n i => laws_eqUndoS_l0 std (laws_eqUndo std) n a a i (fun t => k t) (fun _ => k true)) (len := a.length) (by omega) (fun n i hi => ?_) (fun n => ?_)
    · simp only [laws_eqUndoS_l0, std_vlen, lt_nat_t hi, inb_nat_t hi, bt, bf, laws_eqUndo, laws_eqUndo_f, es, not_true', add1 (i := i) (by omega)]
    · simp only [laws_eqUndoS_l0, std_vlen, lt_nat_f (Nat.le_refl _), bf]
  rw [es, bf, lp]
theorem toProbe_v (x_Cell : Int) (x_Phase : Int) (x_Ver : Int) (x_Val : Int)  (k : (Int) → (Int) → (Int) → (Int) → R) : laws_toProbe std x_Cell x_Phase x_Ver x_Val k = k x_Cell x_Phase x_Ver x_Val := by
  simp only [laws_toProbe, laws_toProbe_f]
theorem eqProbe_r (x_Cell : Int) (x_Phase : Int) (x_Ver : Int) (x_Val : Int)  (k : Bool → R) : laws_eqProbe std x_Cell x_Phase x_Ver x_Val x_Cell x_Phase x_Ver x_Val k = k true := by
  have es : ∀ x : Int, std.not (std.eq x x) = false := fun x => by simp
  have eb : ∀ x : Bool, std.not (std.beq x x) = false := fun x => by simp
  simp only [laws_eqProbe, laws_eqProbe_f, es, eb, bt, bf, not_true']
theorem szCommit_v (x_Who : Int) (x_Rv : Int) (x_Phase : Int) (x_At : Int) (x_Wv : Int) (x_Puts : List (List Int)) (x_Reads : List Int) (h_Puts : x_Puts.length ≤ maxLen) (h_Reads : x_Reads.length ≤ maxLen) (left : Int) (l0 : 0 ≤ left) (l1 : left ≤ 1048576) : ∃ v, v ≤ left ∧ (0 ≤ v → x_Puts.length ≤ 1048576 ∧ x_Reads.length ≤ 1048576) ∧ ∀ k, laws_szCommit std x_Who x_Rv x_Phase x_At x_Wv x_Puts x_Reads left k = k v := by
  obtain ⟨v0, a0, b0, k0⟩ := szRowS_v x_Puts h_Puts left l0 l1
  by_cases c0 : v0 < 0
  · exact ⟨-1, by omega, fun h => by omega, fun k => by simp only [laws_szCommit, laws_szCommit_f, k0, lt0_t c0, bt]⟩
  obtain ⟨v1, a1, b1, k1⟩ := szIntS_v x_Reads h_Reads v0 (by omega) (by omega)
  by_cases c1 : v1 < 0
  · exact ⟨-1, by omega, fun h => by omega, fun k => by simp only [laws_szCommit, laws_szCommit_f, k0, k1, lt0_t c1, bt, lt0_f c0, bf]⟩
  exact ⟨v1, by omega, fun _ => ⟨b0 (by omega), b1 (by omega)⟩, fun k => by simp only [laws_szCommit, laws_szCommit_f, k0, k1, lt0_f c0, lt0_f c1, bf]⟩
theorem toCommit_v (x_Who : Int) (x_Rv : Int) (x_Phase : Int) (x_At : Int) (x_Wv : Int) (x_Puts : List (List Int)) (x_Reads : List Int) (h_Puts : x_Puts.length ≤ 1048576) (w_Puts : ∀ r ∈ x_Puts, r.length = 2) (h_Reads : x_Reads.length ≤ 1048576) (k : (Int) → (Int) → (Int) → (Int) → (Int) → (List (List Int)) → (List Int) → R) : laws_toCommit std x_Who x_Rv x_Phase x_At x_Wv x_Puts x_Reads k = k x_Who x_Rv x_Phase x_At x_Wv x_Puts x_Reads := by
  simp only [laws_toCommit, laws_toCommit_f, toRowS_v x_Puts h_Puts w_Puts, toIntS_v x_Reads h_Reads]
theorem eqCommit_r (x_Who : Int) (x_Rv : Int) (x_Phase : Int) (x_At : Int) (x_Wv : Int) (x_Puts : List (List Int)) (x_Reads : List Int) (h_Puts : x_Puts.length ≤ 1048576) (h_Reads : x_Reads.length ≤ 1048576) (k : Bool → R) : laws_eqCommit std x_Who x_Rv x_Phase x_At x_Wv x_Puts x_Reads x_Who x_Rv x_Phase x_At x_Wv x_Puts x_Reads k = k true := by
  have es : ∀ x : Int, std.not (std.eq x x) = false := fun x => by simp
  have eb : ∀ x : Bool, std.not (std.beq x x) = false := fun x => by simp
  simp only [laws_eqCommit, laws_eqCommit_f, es, eb, bt, bf, not_true', eqRowS_r x_Puts h_Puts, eqIntS_r x_Reads h_Reads]
theorem szEntryS_v (a : List (List Int)) (h : a.length ≤ maxLen) (left : Int) (h0 : 0 ≤ left) (h1 : left ≤ 1048576) : ∃ v, v ≤ left ∧ (0 ≤ v → a.length ≤ 1048576) ∧ ∀ k, laws_szEntryS std a left k = k v := by
  have hm : maxLen = 9223372036854775807 := by decide
  have e : std.sub .i64 left (a.length : Int) = left - a.length := by rw [std_sub]; exact i64_wrap (by omega) (by omega)
  unfold laws_szEntryS laws_szEntryS_f
  simp only [std_vlen, e, std_lt]
  by_cases hc : left - (a.length : Int) < 0
  · exact ⟨-1, by omega, fun h => by omega, fun k => by simp only [decide_eq_true hc, bt]⟩
  · exact ⟨left - a.length, by omega, fun _ => by omega, fun k => by simp only [decide_eq_false hc, bf]⟩
theorem toEntryS_v (a : List (List Int)) (hb : a.length ≤ 1048576) (hw : ∀ r ∈ a, r.length = 3) (k : List (List Int) → R) : laws_toEntryS std a k = k a := by
  unfold laws_toEntryS laws_toEntryS_f
  generalize hN : std.fuel = N
  have hN : 4294967296 = N := hN
  have e1 : std.mkOk (a.length : Int) = true := by rw [std_mkOk]; exact decide_eq_true (by omega)
  have e2 : std.le (a.length : Int) (a.length : Int) = true := by rw [std_le]; exact decide_eq_true (Int.le_refl _)
  simp only [std_vlen, e1, e2, bt, std_vzero, Int.toNat_natCast]
  have h := loop_fill (fun i => a.getD i []) ((List.replicate 3 0) : List Int) (len := a.length) (F := fun n i o => laws_toEntryS_l0 std (laws_toEntry std) n a i o (fun o => k o)) (kx := k) (N := N) (by omega) (fun n i o hi ho => ?_) (fun n o => ?_)
  · rw [h, range_getD]
  · simp only [laws_toEntryS_l0, std_vlen, lt_nat_t hi, inb_nat_t hi, bt, ho, laws_toEntry, laws_toEntry_f, std_vget, std_vput, Int.toNat_natCast, row3 (hw _ (getD_mem hi)), add1 (i := i) (by omega)]
  · simp only [laws_toEntryS_l0, std_vlen, lt_nat_f (Nat.le_refl _), bf]
theorem eqEntryS_r (a : List (List Int)) (hb : a.length ≤ 1048576) (k : Bool → R) : laws_eqEntryS std a a k = k true := by
  unfold laws_eqEntryS laws_eqEntryS_f
  generalize hN : std.fuel = N
  have hN : 4294967296 = N := hN
  have es : ∀ x : Int, std.not (std.eq x x) = false := fun x => by simp
  have lp : laws_eqEntryS_l0 std (laws_eqEntry std) N a a 0 (fun t => k t) (fun _ => k true) = k true := by
    refine loop_true (F := fun n i => laws_eqEntryS_l0 std (laws_eqEntry std) n a a i (fun t => k t) (fun _ => k true)) (len := a.length) (by omega) (fun n i hi => ?_) (fun n => ?_)
    · simp only [laws_eqEntryS_l0, std_vlen, lt_nat_t hi, inb_nat_t hi, bt, bf, laws_eqEntry, laws_eqEntry_f, es, not_true', add1 (i := i) (by omega)]
    · simp only [laws_eqEntryS_l0, std_vlen, lt_nat_f (Nat.le_refl _), bf]
  rw [es, bf, lp]
theorem szKidMark_v (x_Pc : Int) (x_Writes : Int) (x_Regs : List Int) (h_Regs : x_Regs.length ≤ maxLen) (left : Int) (l0 : 0 ≤ left) (l1 : left ≤ 1048576) : ∃ v, v ≤ left ∧ (0 ≤ v → x_Regs.length ≤ 1048576) ∧ ∀ k, laws_szKidMark std x_Pc x_Writes x_Regs left k = k v := by
  obtain ⟨v0, a0, b0, k0⟩ := szIntS_v x_Regs h_Regs left l0 l1
  by_cases c0 : v0 < 0
  · exact ⟨-1, by omega, fun h => by omega, fun k => by simp only [laws_szKidMark, laws_szKidMark_f, k0, lt0_t c0, bt]⟩
  exact ⟨v0, by omega, fun _ => b0 (by omega), fun k => by simp only [laws_szKidMark, laws_szKidMark_f, k0, lt0_f c0, bf]⟩
theorem toKidMark_v (x_Pc : Int) (x_Writes : Int) (x_Regs : List Int) (h_Regs : x_Regs.length ≤ 1048576) (k : (Int) → (Int) → (List Int) → R) : laws_toKidMark std x_Pc x_Writes x_Regs k = k x_Pc x_Writes x_Regs := by
  simp only [laws_toKidMark, laws_toKidMark_f, toIntS_v x_Regs h_Regs]
theorem eqKidMark_r (x_Pc : Int) (x_Writes : Int) (x_Regs : List Int) (h_Regs : x_Regs.length ≤ 1048576) (k : Bool → R) : laws_eqKidMark std x_Pc x_Writes x_Regs x_Pc x_Writes x_Regs k = k true := by
  have es : ∀ x : Int, std.not (std.eq x x) = false := fun x => by simp
  have eb : ∀ x : Bool, std.not (std.beq x x) = false := fun x => by simp
  simp only [laws_eqKidMark, laws_eqKidMark_f, es, eb, bt, bf, not_true', eqIntS_r x_Regs h_Regs]
def nKidMark (a : List (List C)) (i : Nat) : List C := [.i (std.rint a (i : Int) 0), .i (std.rint a (i : Int) 1), .s (std.ofi (std.rsi a (i : Int) 2))]
def nKidMarkS (a : List (List C)) : List (List C) := (List.range a.length).map (nKidMark a)
def bKidMark (a : List (List C)) (i : Nat) : Prop := (std.rsi a (i : Int) 2).length ≤ 1048576
def bKidMarkS (a : List (List C)) : Prop := a.length ≤ 1048576 ∧ ∀ i, i < a.length → bKidMark a i
theorem szKidMarkS_v (a : List (List C)) (h : FitArr cx (.rows 405 a)) (left : Int) (h0 : 0 ≤ left) (h1 : left ≤ 1048576) : ∃ v, v ≤ left ∧ (0 ≤ v → bKidMarkS a) ∧ ∀ k, laws_szKidMarkS std a left k = k v := by
  have hm : maxLen = 9223372036854775807 := by decide
  have hl := fit_len h
  have e : std.sub .i64 left (a.length : Int) = left - a.length := by rw [std_sub]; exact i64_wrap (by omega) (by omega)
  unfold laws_szKidMarkS laws_szKidMarkS_f
  simp only [std_rlen, e, std_lt]
  generalize hN : std.fuel = N
  have hN : 4294967296 = N := hN
  by_cases hc : left - (a.length : Int) < 0
  · exact ⟨-1, by omega, fun h => by omega, fun k => by simp only [decide_eq_true hc, bt]⟩
  · have hs : ∀ i left, i < a.length → 0 ≤ left → left ≤ 1048576 → ∃ v, v ≤ left ∧ (0 ≤ v → bKidMark a i) ∧ ∀ k n, laws_szKidMarkS_l0 std (laws_szKidMark std) (n + 1) a left (i : Int) k k = bif std.lt v 0 then k (-1) else laws_szKidMarkS_l0 std (laws_szKidMark std) n a v ((i + 1 : Nat) : Int) k k := fun i left hi l0 l1 => by
      obtain ⟨v, v1, v2, v3⟩ := szKidMark_v (std.rint a (i : Int) 0) (std.rint a (i : Int) 1) (std.rsi a (i : Int) 2) (fit_rsi h rfl hi (j := 2) (by decide) rfl rfl rfl).1 left l0 l1
      exact ⟨v, v1, v2, fun k n => by simp only [laws_szKidMarkS_l0, std_rlen, lt_nat_t hi, inb_nat_t hi, bt, v3, add1 (i := i) (by omega)]⟩
    have he : ∀ (k : Int → R) n left, laws_szKidMarkS_l0 std (laws_szKidMark std) (n + 1) a left (a.length : Int) k k = k left := fun k n left => by simp only [laws_szKidMarkS_l0, std_rlen, lt_nat_f (Nat.le_refl _), bf]
    obtain ⟨v, v1, v2, v3⟩ := loop_left (F := fun k n i left => laws_szKidMarkS_l0 std (laws_szKidMark std) n a left i k k) (P := bKidMark a) (len := a.length) (N := N) (by omega) hs he (left - a.length) (by omega) (by omega)
    exact ⟨v, by omega, fun h => ⟨by omega, v2 h⟩, fun k => by simp only [decide_eq_false hc, bf]; exact v3 k⟩
theorem toKidMarkS_v (a : List (List C)) (h : bKidMarkS a) (k : List (List C) → R) : laws_toKidMarkS std a k = k (nKidMarkS a) := by
  have hb := h.1
  unfold laws_toKidMarkS laws_toKidMarkS_f
  generalize hN : std.fuel = N
  have hN : 4294967296 = N := hN
  have e1 : std.mkOk (a.length : Int) = true := by rw [std_mkOk]; exact decide_eq_true (by omega)
  have e2 : std.le (a.length : Int) (a.length : Int) = true := by rw [std_le]; exact decide_eq_true (Int.le_refl _)
  simp only [std_rlen, e1, e2, bt, std_rzero, Int.toNat_natCast]
  refine loop_fill (nKidMark a) _ (len := a.length) (F := fun n i o => laws_toKidMarkS_l0 std (laws_toKidMark std) n a i o (fun o => k o)) (kx := k) (N := N) (by omega) (fun n i o hi ho => ?_) (fun n o => ?_)
  · have hv := fun kk => toKidMark_v (std.rint a (i : Int) 0) (std.rint a (i : Int) 1) (std.rsi a (i : Int) 2) (h.2 i hi) (k := kk)
    simp only [laws_toKidMarkS_l0, std_rlen, lt_nat_t hi, inb_nat_t hi, bt, ho, hv, std_rput, Int.toNat_natCast, add1 (i := i) (by omega)]
    try rfl
  · simp only [laws_toKidMarkS_l0, std_rlen, lt_nat_f (Nat.le_refl _), bf]
theorem rdKidMark_2 (a : List (List C)) (i : Nat) (hi : i < a.length) : (std.rsi (nKidMarkS a) (i : Int) 2) = (std.rsi a (i : Int) 2) := by
  show ((asRows (cOf (nKidMarkS a) (i : Int).toNat 2)).map fun r => asInt (cAt r 0)) = _
  rw [Int.toNat_natCast, nKidMarkS, cOf_fill _ hi]
  exact rsi_cell _
theorem lenKidMarkS (a : List (List C)) : (nKidMarkS a).length = a.length := by simp [nKidMarkS]
theorem bKidMarkS_n (a : List (List C)) (h : bKidMarkS a) : bKidMarkS (nKidMarkS a) := ⟨by rw [lenKidMarkS]; exact h.1, fun i hi => by
  rw [lenKidMarkS] at hi
  exact (by unfold bKidMark; rw [rdKidMark_2 a i hi]; exact h.2 i hi)⟩
theorem eqKidMarkS_r (a : List (List C)) (h : bKidMarkS a) (k : Bool → R) : laws_eqKidMarkS std a a k = k true := by
  have hb := h.1
  unfold laws_eqKidMarkS laws_eqKidMarkS_f
  generalize hN : std.fuel = N
  have hN : 4294967296 = N := hN
  have es : ∀ x : Int, std.not (std.eq x x) = false := fun x => by simp
  have lp : laws_eqKidMarkS_l0 std (laws_eqKidMark std) N a a 0 (fun t => k t) (fun _ => k true) = k true := by
    refine loop_true (F := fun n i => laws_eqKidMarkS_l0 std (laws_eqKidMark std) n a a i (fun t => k t) (fun _ => k true)) (len := a.length) (by omega) (fun n i hi => ?_) (fun n => ?_)
    · have hv := fun kk => eqKidMark_r (std.rint a (i : Int) 0) (std.rint a (i : Int) 1) (std.rsi a (i : Int) 2) (h.2 i hi) (k := kk)
      simp only [laws_eqKidMarkS_l0, std_rlen, lt_nat_t hi, inb_nat_t hi, bt, bf, hv, not_true', add1 (i := i) (by omega)]
    · simp only [laws_eqKidMarkS_l0, std_rlen, lt_nat_f (Nat.le_refl _), bf]
  rw [es, bf, lp]
theorem szKidRun_v (x_Phase : Int) (x_Pc : Int) (x_Since : Int) (x_Tries : Int) (x_At : Int) (x_Out : Int) (x_Regs : List Int) (x_Seen : List (List Int)) (x_Writes : List (List Int)) (x_Marks : List (List C)) (x_Busy : Bool) (x_Probe_Cell : Int) (x_Probe_Phase : Int) (x_Probe_Ver : Int) (x_Probe_Val : Int) (h_Regs : x_Regs.length ≤ maxLen) (h_Seen : x_Seen.length ≤ maxLen) (h_Writes : x_Writes.length ≤ maxLen) (h_Marks : FitArr cx (.rows 405 x_Marks)) (left : Int) (l0 : 0 ≤ left) (l1 : left ≤ 1048576) : ∃ v, v ≤ left ∧ (0 ≤ v → x_Regs.length ≤ 1048576 ∧ x_Seen.length ≤ 1048576 ∧ x_Writes.length ≤ 1048576 ∧ bKidMarkS x_Marks) ∧ ∀ k, laws_szKidRun std x_Phase x_Pc x_Since x_Tries x_At x_Out x_Regs x_Seen x_Writes x_Marks x_Busy x_Probe_Cell x_Probe_Phase x_Probe_Ver x_Probe_Val left k = k v := by
  obtain ⟨v0, a0, b0, k0⟩ := szIntS_v x_Regs h_Regs left l0 l1
  by_cases c0 : v0 < 0
  · exact ⟨-1, by omega, fun h => by omega, fun k => by simp only [laws_szKidRun, laws_szKidRun_f, k0, lt0_t c0, bt]⟩
  obtain ⟨v1, a1, b1, k1⟩ := szEntryS_v x_Seen h_Seen v0 (by omega) (by omega)
  by_cases c1 : v1 < 0
  · exact ⟨-1, by omega, fun h => by omega, fun k => by simp only [laws_szKidRun, laws_szKidRun_f, k0, k1, lt0_t c1, bt, lt0_f c0, bf]⟩
  obtain ⟨v2, a2, b2, k2⟩ := szRowS_v x_Writes h_Writes v1 (by omega) (by omega)
  by_cases c2 : v2 < 0
  · exact ⟨-1, by omega, fun h => by omega, fun k => by simp only [laws_szKidRun, laws_szKidRun_f, k0, k1, k2, lt0_t c2, bt, lt0_f c0, lt0_f c1, bf]⟩
  obtain ⟨v3, a3, b3, k3⟩ := szKidMarkS_v x_Marks h_Marks v2 (by omega) (by omega)
  by_cases c3 : v3 < 0
  · exact ⟨-1, by omega, fun h => by omega, fun k => by simp only [laws_szKidRun, laws_szKidRun_f, k0, k1, k2, k3, lt0_t c3, bt, lt0_f c0, lt0_f c1, lt0_f c2, bf]⟩
  exact ⟨v3, by omega, fun _ => ⟨b0 (by omega), b1 (by omega), b2 (by omega), b3 (by omega)⟩, fun k => by simp only [laws_szKidRun, laws_szKidRun_f, k0, k1, k2, k3, lt0_f c0, lt0_f c1, lt0_f c2, lt0_f c3, bf]⟩
theorem toKidRun_v (x_Phase : Int) (x_Pc : Int) (x_Since : Int) (x_Tries : Int) (x_At : Int) (x_Out : Int) (x_Regs : List Int) (x_Seen : List (List Int)) (x_Writes : List (List Int)) (x_Marks : List (List C)) (x_Busy : Bool) (x_Probe_Cell : Int) (x_Probe_Phase : Int) (x_Probe_Ver : Int) (x_Probe_Val : Int) (h_Regs : x_Regs.length ≤ 1048576) (h_Seen : x_Seen.length ≤ 1048576) (w_Seen : ∀ r ∈ x_Seen, r.length = 3) (h_Writes : x_Writes.length ≤ 1048576) (w_Writes : ∀ r ∈ x_Writes, r.length = 2) (h_Marks : bKidMarkS x_Marks) (k : (Int) → (Int) → (Int) → (Int) → (Int) → (Int) → (List Int) → (List (List Int)) → (List (List Int)) → (List (List C)) → (Bool) → (Int) → (Int) → (Int) → (Int) → R) : laws_toKidRun std x_Phase x_Pc x_Since x_Tries x_At x_Out x_Regs x_Seen x_Writes x_Marks x_Busy x_Probe_Cell x_Probe_Phase x_Probe_Ver x_Probe_Val k = k x_Phase x_Pc x_Since x_Tries x_At x_Out x_Regs x_Seen x_Writes (nKidMarkS x_Marks) x_Busy x_Probe_Cell x_Probe_Phase x_Probe_Ver x_Probe_Val := by
  simp only [laws_toKidRun, laws_toKidRun_f, toIntS_v x_Regs h_Regs, toEntryS_v x_Seen h_Seen w_Seen, toRowS_v x_Writes h_Writes w_Writes, toKidMarkS_v x_Marks h_Marks, toProbe_v x_Probe_Cell x_Probe_Phase x_Probe_Ver x_Probe_Val ]
theorem eqKidRun_r (x_Phase : Int) (x_Pc : Int) (x_Since : Int) (x_Tries : Int) (x_At : Int) (x_Out : Int) (x_Regs : List Int) (x_Seen : List (List Int)) (x_Writes : List (List Int)) (x_Marks : List (List C)) (x_Busy : Bool) (x_Probe_Cell : Int) (x_Probe_Phase : Int) (x_Probe_Ver : Int) (x_Probe_Val : Int) (h_Regs : x_Regs.length ≤ 1048576) (h_Seen : x_Seen.length ≤ 1048576) (h_Writes : x_Writes.length ≤ 1048576) (h_Marks : bKidMarkS x_Marks) (k : Bool → R) : laws_eqKidRun std x_Phase x_Pc x_Since x_Tries x_At x_Out x_Regs x_Seen x_Writes x_Marks x_Busy x_Probe_Cell x_Probe_Phase x_Probe_Ver x_Probe_Val x_Phase x_Pc x_Since x_Tries x_At x_Out x_Regs x_Seen x_Writes x_Marks x_Busy x_Probe_Cell x_Probe_Phase x_Probe_Ver x_Probe_Val k = k true := by
  have es : ∀ x : Int, std.not (std.eq x x) = false := fun x => by simp
  have eb : ∀ x : Bool, std.not (std.beq x x) = false := fun x => by simp
  simp only [laws_eqKidRun, laws_eqKidRun_f, es, eb, bt, bf, not_true', eqIntS_r x_Regs h_Regs, eqEntryS_r x_Seen h_Seen, eqRowS_r x_Writes h_Writes, eqKidMarkS_r x_Marks h_Marks, eqProbe_r x_Probe_Cell x_Probe_Phase x_Probe_Ver x_Probe_Val ]
def nKidRun (a : List (List C)) (i : Nat) : List C := [.i (std.rint a (i : Int) 0), .i (std.rint a (i : Int) 1), .i (std.rint a (i : Int) 2), .i (std.rint a (i : Int) 3), .i (std.rint a (i : Int) 4), .i (std.rint a (i : Int) 5), .s (std.ofi (std.rsi a (i : Int) 6)), .s (std.ofv (std.rsv 3 a (i : Int) 7)), .s (std.ofv (std.rsv 2 a (i : Int) 8)), .s (nKidMarkS (std.rsr a (i : Int) 9)), .b (std.rbool a (i : Int) 10), .i (std.rint a (i : Int) 11), .i (std.rint a (i : Int) 12), .i (std.rint a (i : Int) 13), .i (std.rint a (i : Int) 14)]
def nKidRunS (a : List (List C)) : List (List C) := (List.range a.length).map (nKidRun a)
def bKidRun (a : List (List C)) (i : Nat) : Prop := (std.rsi a (i : Int) 6).length ≤ 1048576 ∧ (std.rsv 3 a (i : Int) 7).length ≤ 1048576 ∧ (std.rsv 2 a (i : Int) 8).length ≤ 1048576 ∧ bKidMarkS (std.rsr a (i : Int) 9)
def bKidRunS (a : List (List C)) : Prop := a.length ≤ 1048576 ∧ ∀ i, i < a.length → bKidRun a i
theorem szKidRunS_v (a : List (List C)) (h : FitArr cx (.rows 295 a)) (left : Int) (h0 : 0 ≤ left) (h1 : left ≤ 1048576) : ∃ v, v ≤ left ∧ (0 ≤ v → bKidRunS a) ∧ ∀ k, laws_szKidRunS std a left k = k v := by
  have hm : maxLen = 9223372036854775807 := by decide
  have hl := fit_len h
  have e : std.sub .i64 left (a.length : Int) = left - a.length := by rw [std_sub]; exact i64_wrap (by omega) (by omega)
  unfold laws_szKidRunS laws_szKidRunS_f
  simp only [std_rlen, e, std_lt]
  generalize hN : std.fuel = N
  have hN : 4294967296 = N := hN
  by_cases hc : left - (a.length : Int) < 0
  · exact ⟨-1, by omega, fun h => by omega, fun k => by simp only [decide_eq_true hc, bt]⟩
  · have hs : ∀ i left, i < a.length → 0 ≤ left → left ≤ 1048576 → ∃ v, v ≤ left ∧ (0 ≤ v → bKidRun a i) ∧ ∀ k n, laws_szKidRunS_l0 std (laws_szKidRun std) (n + 1) a left (i : Int) k k = bif std.lt v 0 then k (-1) else laws_szKidRunS_l0 std (laws_szKidRun std) n a v ((i + 1 : Nat) : Int) k k := fun i left hi l0 l1 => by
      obtain ⟨v, v1, v2, v3⟩ := szKidRun_v (std.rint a (i : Int) 0) (std.rint a (i : Int) 1) (std.rint a (i : Int) 2) (std.rint a (i : Int) 3) (std.rint a (i : Int) 4) (std.rint a (i : Int) 5) (std.rsi a (i : Int) 6) (std.rsv 3 a (i : Int) 7) (std.rsv 2 a (i : Int) 8) (std.rsr a (i : Int) 9) (std.rbool a (i : Int) 10) (std.rint a (i : Int) 11) (std.rint a (i : Int) 12) (std.rint a (i : Int) 13) (std.rint a (i : Int) 14) (fit_rsi h rfl hi (j := 6) (by decide) rfl rfl rfl).1 (fit_rsv h rfl hi (j := 7) (by decide) rfl rfl rfl).1 (fit_rsv h rfl hi (j := 8) (by decide) rfl rfl rfl).1 (fit_rsr h rfl hi (j := 9) (by decide) rfl rfl rfl) left l0 l1
      exact ⟨v, v1, v2, fun k n => by simp only [laws_szKidRunS_l0, std_rlen, lt_nat_t hi, inb_nat_t hi, bt, v3, add1 (i := i) (by omega)]⟩
    have he : ∀ (k : Int → R) n left, laws_szKidRunS_l0 std (laws_szKidRun std) (n + 1) a left (a.length : Int) k k = k left := fun k n left => by simp only [laws_szKidRunS_l0, std_rlen, lt_nat_f (Nat.le_refl _), bf]
    obtain ⟨v, v1, v2, v3⟩ := loop_left (F := fun k n i left => laws_szKidRunS_l0 std (laws_szKidRun std) n a left i k k) (P := bKidRun a) (len := a.length) (N := N) (by omega) hs he (left - a.length) (by omega) (by omega)
    exact ⟨v, by omega, fun h => ⟨by omega, v2 h⟩, fun k => by simp only [decide_eq_false hc, bf]; exact v3 k⟩
theorem toKidRunS_v (a : List (List C)) (h : bKidRunS a) (k : List (List C) → R) : laws_toKidRunS std a k = k (nKidRunS a) := by
  have hb := h.1
  unfold laws_toKidRunS laws_toKidRunS_f
  generalize hN : std.fuel = N
  have hN : 4294967296 = N := hN
  have e1 : std.mkOk (a.length : Int) = true := by rw [std_mkOk]; exact decide_eq_true (by omega)
  have e2 : std.le (a.length : Int) (a.length : Int) = true := by rw [std_le]; exact decide_eq_true (Int.le_refl _)
  simp only [std_rlen, e1, e2, bt, std_rzero, Int.toNat_natCast]
  refine loop_fill (nKidRun a) _ (len := a.length) (F := fun n i o => laws_toKidRunS_l0 std (laws_toKidRun std) n a i o (fun o => k o)) (kx := k) (N := N) (by omega) (fun n i o hi ho => ?_) (fun n o => ?_)
  · have hv := fun kk => toKidRun_v (std.rint a (i : Int) 0) (std.rint a (i : Int) 1) (std.rint a (i : Int) 2) (std.rint a (i : Int) 3) (std.rint a (i : Int) 4) (std.rint a (i : Int) 5) (std.rsi a (i : Int) 6) (std.rsv 3 a (i : Int) 7) (std.rsv 2 a (i : Int) 8) (std.rsr a (i : Int) 9) (std.rbool a (i : Int) 10) (std.rint a (i : Int) 11) (std.rint a (i : Int) 12) (std.rint a (i : Int) 13) (std.rint a (i : Int) 14) ((h.2 i hi).1) ((h.2 i hi).2.1) (rsv_wide _ _ _ _) ((h.2 i hi).2.2.1) (rsv_wide _ _ _ _) ((h.2 i hi).2.2.2) (k := kk)
    simp only [laws_toKidRunS_l0, std_rlen, lt_nat_t hi, inb_nat_t hi, bt, ho, hv, std_rput, Int.toNat_natCast, add1 (i := i) (by omega)]
    try rfl
  · simp only [laws_toKidRunS_l0, std_rlen, lt_nat_f (Nat.le_refl _), bf]
theorem rdKidRun_6 (a : List (List C)) (i : Nat) (hi : i < a.length) : (std.rsi (nKidRunS a) (i : Int) 6) = (std.rsi a (i : Int) 6) := by
  show ((asRows (cOf (nKidRunS a) (i : Int).toNat 6)).map fun r => asInt (cAt r 0)) = _
  rw [Int.toNat_natCast, nKidRunS, cOf_fill _ hi]
  exact rsi_cell _
theorem rdKidRun_7 (a : List (List C)) (i : Nat) (hi : i < a.length) : (std.rsv 3 (nKidRunS a) (i : Int) 7) = (std.rsv 3 a (i : Int) 7) := by
  show ((asRows (cOf (nKidRunS a) (i : Int).toNat 7)).map fun r => (List.range 3).map fun q => asInt (cAt r q)) = _
  rw [Int.toNat_natCast, nKidRunS, cOf_fill _ hi]
  exact rsv_cell (rsv_wide _ _ _ _)
theorem rdKidRun_8 (a : List (List C)) (i : Nat) (hi : i < a.length) : (std.rsv 2 (nKidRunS a) (i : Int) 8) = (std.rsv 2 a (i : Int) 8) := by
  show ((asRows (cOf (nKidRunS a) (i : Int).toNat 8)).map fun r => (List.range 2).map fun q => asInt (cAt r q)) = _
  rw [Int.toNat_natCast, nKidRunS, cOf_fill _ hi]
  exact rsv_cell (rsv_wide _ _ _ _)
theorem rdKidRun_9 (a : List (List C)) (i : Nat) (hi : i < a.length) : (std.rsr (nKidRunS a) (i : Int) 9) = nKidMarkS (std.rsr a (i : Int) 9) := by
  show asRows (cOf (nKidRunS a) (i : Int).toNat 9) = _
  rw [Int.toNat_natCast, nKidRunS, cOf_fill _ hi]
  exact rfl
theorem lenKidRunS (a : List (List C)) : (nKidRunS a).length = a.length := by simp [nKidRunS]
theorem bKidRunS_n (a : List (List C)) (h : bKidRunS a) : bKidRunS (nKidRunS a) := ⟨by rw [lenKidRunS]; exact h.1, fun i hi => by
  rw [lenKidRunS] at hi
  exact ⟨(by rw [rdKidRun_6 a i hi]; exact (h.2 i hi).1), (by rw [rdKidRun_7 a i hi]; exact (h.2 i hi).2.1), (by rw [rdKidRun_8 a i hi]; exact (h.2 i hi).2.2.1), (by rw [rdKidRun_9 a i hi]; exact bKidMarkS_n _ (h.2 i hi).2.2.2)⟩⟩
theorem eqKidRunS_r (a : List (List C)) (h : bKidRunS a) (k : Bool → R) : laws_eqKidRunS std a a k = k true := by
  have hb := h.1
  unfold laws_eqKidRunS laws_eqKidRunS_f
  generalize hN : std.fuel = N
  have hN : 4294967296 = N := hN
  have es : ∀ x : Int, std.not (std.eq x x) = false := fun x => by simp
  have lp : laws_eqKidRunS_l0 std (laws_eqKidRun std) N a a 0 (fun t => k t) (fun _ => k true) = k true := by
    refine loop_true (F := fun n i => laws_eqKidRunS_l0 std (laws_eqKidRun std) n a a i (fun t => k t) (fun _ => k true)) (len := a.length) (by omega) (fun n i hi => ?_) (fun n => ?_)
    · have hv := fun kk => eqKidRun_r (std.rint a (i : Int) 0) (std.rint a (i : Int) 1) (std.rint a (i : Int) 2) (std.rint a (i : Int) 3) (std.rint a (i : Int) 4) (std.rint a (i : Int) 5) (std.rsi a (i : Int) 6) (std.rsv 3 a (i : Int) 7) (std.rsv 2 a (i : Int) 8) (std.rsr a (i : Int) 9) (std.rbool a (i : Int) 10) (std.rint a (i : Int) 11) (std.rint a (i : Int) 12) (std.rint a (i : Int) 13) (std.rint a (i : Int) 14) ((h.2 i hi).1) ((h.2 i hi).2.1) ((h.2 i hi).2.2.1) ((h.2 i hi).2.2.2) (k := kk)
      simp only [laws_eqKidRunS_l0, std_rlen, lt_nat_t hi, inb_nat_t hi, bt, bf, hv, not_true', add1 (i := i) (by omega)]
    · simp only [laws_eqKidRunS_l0, std_rlen, lt_nat_f (Nat.le_refl _), bf]
  rw [es, bf, lp]
theorem szFamily_v (x_Rv : Int) (x_Clock : Int) (x_Owner : Int) (x_Lost : Bool) (x_Regs : List Int) (x_Start : List (List Int)) (x_Buf : List (List Int)) (x_Order : List Int) (x_Reads : List (List Int)) (x_Kids : List (List C)) (h_Regs : x_Regs.length ≤ maxLen) (h_Start : x_Start.length ≤ maxLen) (h_Buf : x_Buf.length ≤ maxLen) (h_Order : x_Order.length ≤ maxLen) (h_Reads : x_Reads.length ≤ maxLen) (h_Kids : FitArr cx (.rows 295 x_Kids)) (left : Int) (l0 : 0 ≤ left) (l1 : left ≤ 1048576) : ∃ v, v ≤ left ∧ (0 ≤ v → x_Regs.length ≤ 1048576 ∧ x_Start.length ≤ 1048576 ∧ x_Buf.length ≤ 1048576 ∧ x_Order.length ≤ 1048576 ∧ x_Reads.length ≤ 1048576 ∧ bKidRunS x_Kids) ∧ ∀ k, laws_szFamily std x_Rv x_Clock x_Owner x_Lost x_Regs x_Start x_Buf x_Order x_Reads x_Kids left k = k v := by
  obtain ⟨v0, a0, b0, k0⟩ := szIntS_v x_Regs h_Regs left l0 l1
  by_cases c0 : v0 < 0
  · exact ⟨-1, by omega, fun h => by omega, fun k => by simp only [laws_szFamily, laws_szFamily_f, k0, lt0_t c0, bt]⟩
  obtain ⟨v1, a1, b1, k1⟩ := szRowS_v x_Start h_Start v0 (by omega) (by omega)
  by_cases c1 : v1 < 0
  · exact ⟨-1, by omega, fun h => by omega, fun k => by simp only [laws_szFamily, laws_szFamily_f, k0, k1, lt0_t c1, bt, lt0_f c0, bf]⟩
  obtain ⟨v2, a2, b2, k2⟩ := szEntryS_v x_Buf h_Buf v1 (by omega) (by omega)
  by_cases c2 : v2 < 0
  · exact ⟨-1, by omega, fun h => by omega, fun k => by simp only [laws_szFamily, laws_szFamily_f, k0, k1, k2, lt0_t c2, bt, lt0_f c0, lt0_f c1, bf]⟩
  obtain ⟨v3, a3, b3, k3⟩ := szIntS_v x_Order h_Order v2 (by omega) (by omega)
  by_cases c3 : v3 < 0
  · exact ⟨-1, by omega, fun h => by omega, fun k => by simp only [laws_szFamily, laws_szFamily_f, k0, k1, k2, k3, lt0_t c3, bt, lt0_f c0, lt0_f c1, lt0_f c2, bf]⟩
  obtain ⟨v4, a4, b4, k4⟩ := szRowS_v x_Reads h_Reads v3 (by omega) (by omega)
  by_cases c4 : v4 < 0
  · exact ⟨-1, by omega, fun h => by omega, fun k => by simp only [laws_szFamily, laws_szFamily_f, k0, k1, k2, k3, k4, lt0_t c4, bt, lt0_f c0, lt0_f c1, lt0_f c2, lt0_f c3, bf]⟩
  obtain ⟨v5, a5, b5, k5⟩ := szKidRunS_v x_Kids h_Kids v4 (by omega) (by omega)
  by_cases c5 : v5 < 0
  · exact ⟨-1, by omega, fun h => by omega, fun k => by simp only [laws_szFamily, laws_szFamily_f, k0, k1, k2, k3, k4, k5, lt0_t c5, bt, lt0_f c0, lt0_f c1, lt0_f c2, lt0_f c3, lt0_f c4, bf]⟩
  exact ⟨v5, by omega, fun _ => ⟨b0 (by omega), b1 (by omega), b2 (by omega), b3 (by omega), b4 (by omega), b5 (by omega)⟩, fun k => by simp only [laws_szFamily, laws_szFamily_f, k0, k1, k2, k3, k4, k5, lt0_f c0, lt0_f c1, lt0_f c2, lt0_f c3, lt0_f c4, lt0_f c5, bf]⟩
theorem toFamily_v (x_Rv : Int) (x_Clock : Int) (x_Owner : Int) (x_Lost : Bool) (x_Regs : List Int) (x_Start : List (List Int)) (x_Buf : List (List Int)) (x_Order : List Int) (x_Reads : List (List Int)) (x_Kids : List (List C)) (h_Regs : x_Regs.length ≤ 1048576) (h_Start : x_Start.length ≤ 1048576) (w_Start : ∀ r ∈ x_Start, r.length = 2) (h_Buf : x_Buf.length ≤ 1048576) (w_Buf : ∀ r ∈ x_Buf, r.length = 3) (h_Order : x_Order.length ≤ 1048576) (h_Reads : x_Reads.length ≤ 1048576) (w_Reads : ∀ r ∈ x_Reads, r.length = 2) (h_Kids : bKidRunS x_Kids) (k : (Int) → (Int) → (Int) → (Bool) → (List Int) → (List (List Int)) → (List (List Int)) → (List Int) → (List (List Int)) → (List (List C)) → R) : laws_toFamily std x_Rv x_Clock x_Owner x_Lost x_Regs x_Start x_Buf x_Order x_Reads x_Kids k = k x_Rv x_Clock x_Owner x_Lost x_Regs x_Start x_Buf x_Order x_Reads (nKidRunS x_Kids) := by
  simp only [laws_toFamily, laws_toFamily_f, toIntS_v x_Regs h_Regs, toRowS_v x_Start h_Start w_Start, toEntryS_v x_Buf h_Buf w_Buf, toIntS_v x_Order h_Order, toRowS_v x_Reads h_Reads w_Reads, toKidRunS_v x_Kids h_Kids]
theorem eqFamily_r (x_Rv : Int) (x_Clock : Int) (x_Owner : Int) (x_Lost : Bool) (x_Regs : List Int) (x_Start : List (List Int)) (x_Buf : List (List Int)) (x_Order : List Int) (x_Reads : List (List Int)) (x_Kids : List (List C)) (h_Regs : x_Regs.length ≤ 1048576) (h_Start : x_Start.length ≤ 1048576) (h_Buf : x_Buf.length ≤ 1048576) (h_Order : x_Order.length ≤ 1048576) (h_Reads : x_Reads.length ≤ 1048576) (h_Kids : bKidRunS x_Kids) (k : Bool → R) : laws_eqFamily std x_Rv x_Clock x_Owner x_Lost x_Regs x_Start x_Buf x_Order x_Reads x_Kids x_Rv x_Clock x_Owner x_Lost x_Regs x_Start x_Buf x_Order x_Reads x_Kids k = k true := by
  have es : ∀ x : Int, std.not (std.eq x x) = false := fun x => by simp
  have eb : ∀ x : Bool, std.not (std.beq x x) = false := fun x => by simp
  simp only [laws_eqFamily, laws_eqFamily_f, es, eb, bt, bf, not_true', eqIntS_r x_Regs h_Regs, eqRowS_r x_Start h_Start, eqEntryS_r x_Buf h_Buf, eqIntS_r x_Order h_Order, eqRowS_r x_Reads h_Reads, eqKidRunS_r x_Kids h_Kids]
theorem szRoot_v (x_Phase : Int) (x_Tries : Int) (x_Spare : Int) (x_Pc : Int) (x_Rv : Int) (x_NewRv : Int) (x_At : Int) (x_Fate : Int) (x_Stamp : Int) (x_Began : Int) (x_Ended : Int) (x_Doomed : Bool) (x_Regs : List Int) (x_Reads : List (List Int)) (x_Writes : List (List Int)) (x_Marks : List (List C)) (x_Undos : List (List Int)) (x_Order : List Int) (x_Busy : Bool) (x_Probe_Cell : Int) (x_Probe_Phase : Int) (x_Probe_Ver : Int) (x_Probe_Val : Int) (x_Commit_Who : Int) (x_Commit_Rv : Int) (x_Commit_Phase : Int) (x_Commit_At : Int) (x_Commit_Wv : Int) (x_Commit_Puts : List (List Int)) (x_Commit_Reads : List Int) (x_Fam_Rv : Int) (x_Fam_Clock : Int) (x_Fam_Owner : Int) (x_Fam_Lost : Bool) (x_Fam_Regs : List Int) (x_Fam_Start : List (List Int)) (x_Fam_Buf : List (List Int)) (x_Fam_Order : List Int) (x_Fam_Reads : List (List Int)) (x_Fam_Kids : List (List C)) (h_Regs : x_Regs.length ≤ maxLen) (h_Reads : x_Reads.length ≤ maxLen) (h_Writes : x_Writes.length ≤ maxLen) (h_Marks : FitArr cx (.rows 395 x_Marks)) (h_Undos : x_Undos.length ≤ maxLen) (h_Order : x_Order.length ≤ maxLen) (h_Commit_Puts : x_Commit_Puts.length ≤ maxLen) (h_Commit_Reads : x_Commit_Reads.length ≤ maxLen) (h_Fam_Regs : x_Fam_Regs.length ≤ maxLen) (h_Fam_Start : x_Fam_Start.length ≤ maxLen) (h_Fam_Buf : x_Fam_Buf.length ≤ maxLen) (h_Fam_Order : x_Fam_Order.length ≤ maxLen) (h_Fam_Reads : x_Fam_Reads.length ≤ maxLen) (h_Fam_Kids : FitArr cx (.rows 295 x_Fam_Kids)) (left : Int) (l0 : 0 ≤ left) (l1 : left ≤ 1048576) : ∃ v, v ≤ left ∧ (0 ≤ v → x_Regs.length ≤ 1048576 ∧ x_Reads.length ≤ 1048576 ∧ x_Writes.length ≤ 1048576 ∧ bMarkS x_Marks ∧ x_Undos.length ≤ 1048576 ∧ x_Order.length ≤ 1048576 ∧ x_Commit_Puts.length ≤ 1048576 ∧ x_Commit_Reads.length ≤ 1048576 ∧ x_Fam_Regs.length ≤ 1048576 ∧ x_Fam_Start.length ≤ 1048576 ∧ x_Fam_Buf.length ≤ 1048576 ∧ x_Fam_Order.length ≤ 1048576 ∧ x_Fam_Reads.length ≤ 1048576 ∧ bKidRunS x_Fam_Kids) ∧ ∀ k, laws_szRoot std x_Phase x_Tries x_Spare x_Pc x_Rv x_NewRv x_At x_Fate x_Stamp x_Began x_Ended x_Doomed x_Regs x_Reads x_Writes x_Marks x_Undos x_Order x_Busy x_Probe_Cell x_Probe_Phase x_Probe_Ver x_Probe_Val x_Commit_Who x_Commit_Rv x_Commit_Phase x_Commit_At x_Commit_Wv x_Commit_Puts x_Commit_Reads x_Fam_Rv x_Fam_Clock x_Fam_Owner x_Fam_Lost x_Fam_Regs x_Fam_Start x_Fam_Buf x_Fam_Order x_Fam_Reads x_Fam_Kids left k = k v := by
  obtain ⟨v0, a0, b0, k0⟩ := szIntS_v x_Regs h_Regs left l0 l1
  by_cases c0 : v0 < 0
  · exact ⟨-1, by omega, fun h => by omega, fun k => by simp only [laws_szRoot, laws_szRoot_f, k0, lt0_t c0, bt]⟩
  obtain ⟨v1, a1, b1, k1⟩ := szRowS_v x_Reads h_Reads v0 (by omega) (by omega)
  by_cases c1 : v1 < 0
  · exact ⟨-1, by omega, fun h => by omega, fun k => by simp only [laws_szRoot, laws_szRoot_f, k0, k1, lt0_t c1, bt, lt0_f c0, bf]⟩
  obtain ⟨v2, a2, b2, k2⟩ := szRowS_v x_Writes h_Writes v1 (by omega) (by omega)
  by_cases c2 : v2 < 0
  · exact ⟨-1, by omega, fun h => by omega, fun k => by simp only [laws_szRoot, laws_szRoot_f, k0, k1, k2, lt0_t c2, bt, lt0_f c0, lt0_f c1, bf]⟩
  obtain ⟨v3, a3, b3, k3⟩ := szMarkS_v x_Marks h_Marks v2 (by omega) (by omega)
  by_cases c3 : v3 < 0
  · exact ⟨-1, by omega, fun h => by omega, fun k => by simp only [laws_szRoot, laws_szRoot_f, k0, k1, k2, k3, lt0_t c3, bt, lt0_f c0, lt0_f c1, lt0_f c2, bf]⟩
  obtain ⟨v4, a4, b4, k4⟩ := szUndoS_v x_Undos h_Undos v3 (by omega) (by omega)
  by_cases c4 : v4 < 0
  · exact ⟨-1, by omega, fun h => by omega, fun k => by simp only [laws_szRoot, laws_szRoot_f, k0, k1, k2, k3, k4, lt0_t c4, bt, lt0_f c0, lt0_f c1, lt0_f c2, lt0_f c3, bf]⟩
  obtain ⟨v5, a5, b5, k5⟩ := szIntS_v x_Order h_Order v4 (by omega) (by omega)
  by_cases c5 : v5 < 0
  · exact ⟨-1, by omega, fun h => by omega, fun k => by simp only [laws_szRoot, laws_szRoot_f, k0, k1, k2, k3, k4, k5, lt0_t c5, bt, lt0_f c0, lt0_f c1, lt0_f c2, lt0_f c3, lt0_f c4, bf]⟩
  obtain ⟨v6, a6, b6, k6⟩ := szCommit_v x_Commit_Who x_Commit_Rv x_Commit_Phase x_Commit_At x_Commit_Wv x_Commit_Puts x_Commit_Reads h_Commit_Puts h_Commit_Reads v5 (by omega) (by omega)
  by_cases c6 : v6 < 0
  · exact ⟨-1, by omega, fun h => by omega, fun k => by simp only [laws_szRoot, laws_szRoot_f, k0, k1, k2, k3, k4, k5, k6, lt0_t c6, bt, lt0_f c0, lt0_f c1, lt0_f c2, lt0_f c3, lt0_f c4, lt0_f c5, bf]⟩
  obtain ⟨v7, a7, b7, k7⟩ := szFamily_v x_Fam_Rv x_Fam_Clock x_Fam_Owner x_Fam_Lost x_Fam_Regs x_Fam_Start x_Fam_Buf x_Fam_Order x_Fam_Reads x_Fam_Kids h_Fam_Regs h_Fam_Start h_Fam_Buf h_Fam_Order h_Fam_Reads h_Fam_Kids v6 (by omega) (by omega)
  by_cases c7 : v7 < 0
  · exact ⟨-1, by omega, fun h => by omega, fun k => by simp only [laws_szRoot, laws_szRoot_f, k0, k1, k2, k3, k4, k5, k6, k7, lt0_t c7, bt, lt0_f c0, lt0_f c1, lt0_f c2, lt0_f c3, lt0_f c4, lt0_f c5, lt0_f c6, bf]⟩
  exact ⟨v7, by omega, fun _ => ⟨b0 (by omega), b1 (by omega), b2 (by omega), b3 (by omega), b4 (by omega), b5 (by omega), (b6 (by omega)).1, (b6 (by omega)).2, (b7 (by omega)).1, (b7 (by omega)).2.1, (b7 (by omega)).2.2.1, (b7 (by omega)).2.2.2.1, (b7 (by omega)).2.2.2.2.1, (b7 (by omega)).2.2.2.2.2⟩, fun k => by simp only [laws_szRoot, laws_szRoot_f, k0, k1, k2, k3, k4, k5, k6, k7, lt0_f c0, lt0_f c1, lt0_f c2, lt0_f c3, lt0_f c4, lt0_f c5, lt0_f c6, lt0_f c7, bf]⟩
theorem toRoot_v (x_Phase : Int) (x_Tries : Int) (x_Spare : Int) (x_Pc : Int) (x_Rv : Int) (x_NewRv : Int) (x_At : Int) (x_Fate : Int) (x_Stamp : Int) (x_Began : Int) (x_Ended : Int) (x_Doomed : Bool) (x_Regs : List Int) (x_Reads : List (List Int)) (x_Writes : List (List Int)) (x_Marks : List (List C)) (x_Undos : List (List Int)) (x_Order : List Int) (x_Busy : Bool) (x_Probe_Cell : Int) (x_Probe_Phase : Int) (x_Probe_Ver : Int) (x_Probe_Val : Int) (x_Commit_Who : Int) (x_Commit_Rv : Int) (x_Commit_Phase : Int) (x_Commit_At : Int) (x_Commit_Wv : Int) (x_Commit_Puts : List (List Int)) (x_Commit_Reads : List Int) (x_Fam_Rv : Int) (x_Fam_Clock : Int) (x_Fam_Owner : Int) (x_Fam_Lost : Bool) (x_Fam_Regs : List Int) (x_Fam_Start : List (List Int)) (x_Fam_Buf : List (List Int)) (x_Fam_Order : List Int) (x_Fam_Reads : List (List Int)) (x_Fam_Kids : List (List C)) (h_Regs : x_Regs.length ≤ 1048576) (h_Reads : x_Reads.length ≤ 1048576) (w_Reads : ∀ r ∈ x_Reads, r.length = 2) (h_Writes : x_Writes.length ≤ 1048576) (w_Writes : ∀ r ∈ x_Writes, r.length = 2) (h_Marks : bMarkS x_Marks) (h_Undos : x_Undos.length ≤ 1048576) (w_Undos : ∀ r ∈ x_Undos, r.length = 3) (h_Order : x_Order.length ≤ 1048576) (h_Commit_Puts : x_Commit_Puts.length ≤ 1048576) (w_Commit_Puts : ∀ r ∈ x_Commit_Puts, r.length = 2) (h_Commit_Reads : x_Commit_Reads.length ≤ 1048576) (h_Fam_Regs : x_Fam_Regs.length ≤ 1048576) (h_Fam_Start : x_Fam_Start.length ≤ 1048576) (w_Fam_Start : ∀ r ∈ x_Fam_Start, r.length = 2) (h_Fam_Buf : x_Fam_Buf.length ≤ 1048576) (w_Fam_Buf : ∀ r ∈ x_Fam_Buf, r.length = 3) (h_Fam_Order : x_Fam_Order.length ≤ 1048576) (h_Fam_Reads : x_Fam_Reads.length ≤ 1048576) (w_Fam_Reads : ∀ r ∈ x_Fam_Reads, r.length = 2) (h_Fam_Kids : bKidRunS x_Fam_Kids) (k : (Int) → (Int) → (Int) → (Int) → (Int) → (Int) → (Int) → (Int) → (Int) → (Int) → (Int) → (Bool) → (List Int) → (List (List Int)) → (List (List Int)) → (List (List C)) → (List (List Int)) → (List Int) → (Bool) → (Int) → (Int) → (Int) → (Int) → (Int) → (Int) → (Int) → (Int) → (Int) → (List (List Int)) → (List Int) → (Int) → (Int) → (Int) → (Bool) → (List Int) → (List (List Int)) → (List (List Int)) → (List Int) → (List (List Int)) → (List (List C)) → R) : laws_toRoot std x_Phase x_Tries x_Spare x_Pc x_Rv x_NewRv x_At x_Fate x_Stamp x_Began x_Ended x_Doomed x_Regs x_Reads x_Writes x_Marks x_Undos x_Order x_Busy x_Probe_Cell x_Probe_Phase x_Probe_Ver x_Probe_Val x_Commit_Who x_Commit_Rv x_Commit_Phase x_Commit_At x_Commit_Wv x_Commit_Puts x_Commit_Reads x_Fam_Rv x_Fam_Clock x_Fam_Owner x_Fam_Lost x_Fam_Regs x_Fam_Start x_Fam_Buf x_Fam_Order x_Fam_Reads x_Fam_Kids k = k x_Phase x_Tries x_Spare x_Pc x_Rv x_NewRv x_At x_Fate x_Stamp x_Began x_Ended x_Doomed x_Regs x_Reads x_Writes (nMarkS x_Marks) x_Undos x_Order x_Busy x_Probe_Cell x_Probe_Phase x_Probe_Ver x_Probe_Val x_Commit_Who x_Commit_Rv x_Commit_Phase x_Commit_At x_Commit_Wv x_Commit_Puts x_Commit_Reads x_Fam_Rv x_Fam_Clock x_Fam_Owner x_Fam_Lost x_Fam_Regs x_Fam_Start x_Fam_Buf x_Fam_Order x_Fam_Reads (nKidRunS x_Fam_Kids) := by
  simp only [laws_toRoot, laws_toRoot_f, toIntS_v x_Regs h_Regs, toRowS_v x_Reads h_Reads w_Reads, toRowS_v x_Writes h_Writes w_Writes, toMarkS_v x_Marks h_Marks, toUndoS_v x_Undos h_Undos w_Undos, toIntS_v x_Order h_Order, toProbe_v x_Probe_Cell x_Probe_Phase x_Probe_Ver x_Probe_Val , toCommit_v x_Commit_Who x_Commit_Rv x_Commit_Phase x_Commit_At x_Commit_Wv x_Commit_Puts x_Commit_Reads h_Commit_Puts w_Commit_Puts h_Commit_Reads, toFamily_v x_Fam_Rv x_Fam_Clock x_Fam_Owner x_Fam_Lost x_Fam_Regs x_Fam_Start x_Fam_Buf x_Fam_Order x_Fam_Reads x_Fam_Kids h_Fam_Regs h_Fam_Start w_Fam_Start h_Fam_Buf w_Fam_Buf h_Fam_Order h_Fam_Reads w_Fam_Reads h_Fam_Kids]
theorem eqRoot_r (x_Phase : Int) (x_Tries : Int) (x_Spare : Int) (x_Pc : Int) (x_Rv : Int) (x_NewRv : Int) (x_At : Int) (x_Fate : Int) (x_Stamp : Int) (x_Began : Int) (x_Ended : Int) (x_Doomed : Bool) (x_Regs : List Int) (x_Reads : List (List Int)) (x_Writes : List (List Int)) (x_Marks : List (List C)) (x_Undos : List (List Int)) (x_Order : List Int) (x_Busy : Bool) (x_Probe_Cell : Int) (x_Probe_Phase : Int) (x_Probe_Ver : Int) (x_Probe_Val : Int) (x_Commit_Who : Int) (x_Commit_Rv : Int) (x_Commit_Phase : Int) (x_Commit_At : Int) (x_Commit_Wv : Int) (x_Commit_Puts : List (List Int)) (x_Commit_Reads : List Int) (x_Fam_Rv : Int) (x_Fam_Clock : Int) (x_Fam_Owner : Int) (x_Fam_Lost : Bool) (x_Fam_Regs : List Int) (x_Fam_Start : List (List Int)) (x_Fam_Buf : List (List Int)) (x_Fam_Order : List Int) (x_Fam_Reads : List (List Int)) (x_Fam_Kids : List (List C)) (h_Regs : x_Regs.length ≤ 1048576) (h_Reads : x_Reads.length ≤ 1048576) (h_Writes : x_Writes.length ≤ 1048576) (h_Marks : bMarkS x_Marks) (h_Undos : x_Undos.length ≤ 1048576) (h_Order : x_Order.length ≤ 1048576) (h_Commit_Puts : x_Commit_Puts.length ≤ 1048576) (h_Commit_Reads : x_Commit_Reads.length ≤ 1048576) (h_Fam_Regs : x_Fam_Regs.length ≤ 1048576) (h_Fam_Start : x_Fam_Start.length ≤ 1048576) (h_Fam_Buf : x_Fam_Buf.length ≤ 1048576) (h_Fam_Order : x_Fam_Order.length ≤ 1048576) (h_Fam_Reads : x_Fam_Reads.length ≤ 1048576) (h_Fam_Kids : bKidRunS x_Fam_Kids) (k : Bool → R) : laws_eqRoot std x_Phase x_Tries x_Spare x_Pc x_Rv x_NewRv x_At x_Fate x_Stamp x_Began x_Ended x_Doomed x_Regs x_Reads x_Writes x_Marks x_Undos x_Order x_Busy x_Probe_Cell x_Probe_Phase x_Probe_Ver x_Probe_Val x_Commit_Who x_Commit_Rv x_Commit_Phase x_Commit_At x_Commit_Wv x_Commit_Puts x_Commit_Reads x_Fam_Rv x_Fam_Clock x_Fam_Owner x_Fam_Lost x_Fam_Regs x_Fam_Start x_Fam_Buf x_Fam_Order x_Fam_Reads x_Fam_Kids x_Phase x_Tries x_Spare x_Pc x_Rv x_NewRv x_At x_Fate x_Stamp x_Began x_Ended x_Doomed x_Regs x_Reads x_Writes x_Marks x_Undos x_Order x_Busy x_Probe_Cell x_Probe_Phase x_Probe_Ver x_Probe_Val x_Commit_Who x_Commit_Rv x_Commit_Phase x_Commit_At x_Commit_Wv x_Commit_Puts x_Commit_Reads x_Fam_Rv x_Fam_Clock x_Fam_Owner x_Fam_Lost x_Fam_Regs x_Fam_Start x_Fam_Buf x_Fam_Order x_Fam_Reads x_Fam_Kids k = k true := by
  have es : ∀ x : Int, std.not (std.eq x x) = false := fun x => by simp
  have eb : ∀ x : Bool, std.not (std.beq x x) = false := fun x => by simp
  simp only [laws_eqRoot, laws_eqRoot_f, es, eb, bt, bf, not_true', eqIntS_r x_Regs h_Regs, eqRowS_r x_Reads h_Reads, eqRowS_r x_Writes h_Writes, eqMarkS_r x_Marks h_Marks, eqUndoS_r x_Undos h_Undos, eqIntS_r x_Order h_Order, eqProbe_r x_Probe_Cell x_Probe_Phase x_Probe_Ver x_Probe_Val , eqCommit_r x_Commit_Who x_Commit_Rv x_Commit_Phase x_Commit_At x_Commit_Wv x_Commit_Puts x_Commit_Reads h_Commit_Puts h_Commit_Reads, eqFamily_r x_Fam_Rv x_Fam_Clock x_Fam_Owner x_Fam_Lost x_Fam_Regs x_Fam_Start x_Fam_Buf x_Fam_Order x_Fam_Reads x_Fam_Kids h_Fam_Regs h_Fam_Start h_Fam_Buf h_Fam_Order h_Fam_Reads h_Fam_Kids]
def nRoot (a : List (List C)) (i : Nat) : List C := [.i (std.rint a (i : Int) 0), .i (std.rint a (i : Int) 1), .i (std.rint a (i : Int) 2), .i (std.rint a (i : Int) 3), .i (std.rint a (i : Int) 4), .i (std.rint a (i : Int) 5), .i (std.rint a (i : Int) 6), .i (std.rint a (i : Int) 7), .i (std.rint a (i : Int) 8), .i (std.rint a (i : Int) 9), .i (std.rint a (i : Int) 10), .b (std.rbool a (i : Int) 11), .s (std.ofi (std.rsi a (i : Int) 12)), .s (std.ofv (std.rsv 2 a (i : Int) 13)), .s (std.ofv (std.rsv 2 a (i : Int) 14)), .s (nMarkS (std.rsr a (i : Int) 15)), .s (std.ofv (std.rsv 3 a (i : Int) 16)), .s (std.ofi (std.rsi a (i : Int) 17)), .b (std.rbool a (i : Int) 18), .i (std.rint a (i : Int) 19), .i (std.rint a (i : Int) 20), .i (std.rint a (i : Int) 21), .i (std.rint a (i : Int) 22), .i (std.rint a (i : Int) 23), .i (std.rint a (i : Int) 24), .i (std.rint a (i : Int) 25), .i (std.rint a (i : Int) 26), .i (std.rint a (i : Int) 27), .s (std.ofv (std.rsv 2 a (i : Int) 28)), .s (std.ofi (std.rsi a (i : Int) 29)), .i (std.rint a (i : Int) 30), .i (std.rint a (i : Int) 31), .i (std.rint a (i : Int) 32), .b (std.rbool a (i : Int) 33), .s (std.ofi (std.rsi a (i : Int) 34)), .s (std.ofv (std.rsv 2 a (i : Int) 35)), .s (std.ofv (std.rsv 3 a (i : Int) 36)), .s (std.ofi (std.rsi a (i : Int) 37)), .s (std.ofv (std.rsv 2 a (i : Int) 38)), .s (nKidRunS (std.rsr a (i : Int) 39))]
def nRootS (a : List (List C)) : List (List C) := (List.range a.length).map (nRoot a)
def bRoot (a : List (List C)) (i : Nat) : Prop := (std.rsi a (i : Int) 12).length ≤ 1048576 ∧ (std.rsv 2 a (i : Int) 13).length ≤ 1048576 ∧ (std.rsv 2 a (i : Int) 14).length ≤ 1048576 ∧ bMarkS (std.rsr a (i : Int) 15) ∧ (std.rsv 3 a (i : Int) 16).length ≤ 1048576 ∧ (std.rsi a (i : Int) 17).length ≤ 1048576 ∧ (std.rsv 2 a (i : Int) 28).length ≤ 1048576 ∧ (std.rsi a (i : Int) 29).length ≤ 1048576 ∧ (std.rsi a (i : Int) 34).length ≤ 1048576 ∧ (std.rsv 2 a (i : Int) 35).length ≤ 1048576 ∧ (std.rsv 3 a (i : Int) 36).length ≤ 1048576 ∧ (std.rsi a (i : Int) 37).length ≤ 1048576 ∧ (std.rsv 2 a (i : Int) 38).length ≤ 1048576 ∧ bKidRunS (std.rsr a (i : Int) 39)
def bRootS (a : List (List C)) : Prop := a.length ≤ 1048576 ∧ ∀ i, i < a.length → bRoot a i
theorem szRootS_v (a : List (List C)) (h : FitArr cx (.rows 272 a)) (left : Int) (h0 : 0 ≤ left) (h1 : left ≤ 1048576) : ∃ v, v ≤ left ∧ (0 ≤ v → bRootS a) ∧ ∀ k, laws_szRootS std a left k = k v := by
  have hm : maxLen = 9223372036854775807 := by decide
  have hl := fit_len h
  have e : std.sub .i64 left (a.length : Int) = left - a.length := by rw [std_sub]; exact i64_wrap (by omega) (by omega)
  unfold laws_szRootS laws_szRootS_f
  simp only [std_rlen, e, std_lt]
  generalize hN : std.fuel = N
  have hN : 4294967296 = N := hN
  by_cases hc : left - (a.length : Int) < 0
  · exact ⟨-1, by omega, fun h => by omega, fun k => by simp only [decide_eq_true hc, bt]⟩
  · have hs : ∀ i left, i < a.length → 0 ≤ left → left ≤ 1048576 → ∃ v, v ≤ left ∧ (0 ≤ v → bRoot a i) ∧ ∀ k n, laws_szRootS_l0 std (laws_szRoot std) (n + 1) a left (i : Int) k k = bif std.lt v 0 then k (-1) else laws_szRootS_l0 std (laws_szRoot std) n a v ((i + 1 : Nat) : Int) k k := fun i left hi l0 l1 => by
      obtain ⟨v, v1, v2, v3⟩ := szRoot_v (std.rint a (i : Int) 0) (std.rint a (i : Int) 1) (std.rint a (i : Int) 2) (std.rint a (i : Int) 3) (std.rint a (i : Int) 4) (std.rint a (i : Int) 5) (std.rint a (i : Int) 6) (std.rint a (i : Int) 7) (std.rint a (i : Int) 8) (std.rint a (i : Int) 9) (std.rint a (i : Int) 10) (std.rbool a (i : Int) 11) (std.rsi a (i : Int) 12) (std.rsv 2 a (i : Int) 13) (std.rsv 2 a (i : Int) 14) (std.rsr a (i : Int) 15) (std.rsv 3 a (i : Int) 16) (std.rsi a (i : Int) 17) (std.rbool a (i : Int) 18) (std.rint a (i : Int) 19) (std.rint a (i : Int) 20) (std.rint a (i : Int) 21) (std.rint a (i : Int) 22) (std.rint a (i : Int) 23) (std.rint a (i : Int) 24) (std.rint a (i : Int) 25) (std.rint a (i : Int) 26) (std.rint a (i : Int) 27) (std.rsv 2 a (i : Int) 28) (std.rsi a (i : Int) 29) (std.rint a (i : Int) 30) (std.rint a (i : Int) 31) (std.rint a (i : Int) 32) (std.rbool a (i : Int) 33) (std.rsi a (i : Int) 34) (std.rsv 2 a (i : Int) 35) (std.rsv 3 a (i : Int) 36) (std.rsi a (i : Int) 37) (std.rsv 2 a (i : Int) 38) (std.rsr a (i : Int) 39) (fit_rsi h rfl hi (j := 12) (by decide) rfl rfl rfl).1 (fit_rsv h rfl hi (j := 13) (by decide) rfl rfl rfl).1 (fit_rsv h rfl hi (j := 14) (by decide) rfl rfl rfl).1 (fit_rsr h rfl hi (j := 15) (by decide) rfl rfl rfl) (fit_rsv h rfl hi (j := 16) (by decide) rfl rfl rfl).1 (fit_rsi h rfl hi (j := 17) (by decide) rfl rfl rfl).1 (fit_rsv h rfl hi (j := 28) (by decide) rfl rfl rfl).1 (fit_rsi h rfl hi (j := 29) (by decide) rfl rfl rfl).1 (fit_rsi h rfl hi (j := 34) (by decide) rfl rfl rfl).1 (fit_rsv h rfl hi (j := 35) (by decide) rfl rfl rfl).1 (fit_rsv h rfl hi (j := 36) (by decide) rfl rfl rfl).1 (fit_rsi h rfl hi (j := 37) (by decide) rfl rfl rfl).1 (fit_rsv h rfl hi (j := 38) (by decide) rfl rfl rfl).1 (fit_rsr h rfl hi (j := 39) (by decide) rfl rfl rfl) left l0 l1
      exact ⟨v, v1, v2, fun k n => by simp only [laws_szRootS_l0, std_rlen, lt_nat_t hi, inb_nat_t hi, bt, v3, add1 (i := i) (by omega)]⟩
    have he : ∀ (k : Int → R) n left, laws_szRootS_l0 std (laws_szRoot std) (n + 1) a left (a.length : Int) k k = k left := fun k n left => by simp only [laws_szRootS_l0, std_rlen, lt_nat_f (Nat.le_refl _), bf]
    obtain ⟨v, v1, v2, v3⟩ := loop_left (F := fun k n i left => laws_szRootS_l0 std (laws_szRoot std) n a left i k k) (P := bRoot a) (len := a.length) (N := N) (by omega) hs he (left - a.length) (by omega) (by omega)
    exact ⟨v, by omega, fun h => ⟨by omega, v2 h⟩, fun k => by simp only [decide_eq_false hc, bf]; exact v3 k⟩
theorem toRootS_v (a : List (List C)) (h : bRootS a) (k : List (List C) → R) : laws_toRootS std a k = k (nRootS a) := by
  have hb := h.1
  unfold laws_toRootS laws_toRootS_f
  generalize hN : std.fuel = N
  have hN : 4294967296 = N := hN
  have e1 : std.mkOk (a.length : Int) = true := by rw [std_mkOk]; exact decide_eq_true (by omega)
  have e2 : std.le (a.length : Int) (a.length : Int) = true := by rw [std_le]; exact decide_eq_true (Int.le_refl _)
  simp only [std_rlen, e1, e2, bt, std_rzero, Int.toNat_natCast]
  refine loop_fill (nRoot a) _ (len := a.length) (F := fun n i o => laws_toRootS_l0 std (laws_toRoot std) n a i o (fun o => k o)) (kx := k) (N := N) (by omega) (fun n i o hi ho => ?_) (fun n o => ?_)
  · have hv := fun kk => toRoot_v (std.rint a (i : Int) 0) (std.rint a (i : Int) 1) (std.rint a (i : Int) 2) (std.rint a (i : Int) 3) (std.rint a (i : Int) 4) (std.rint a (i : Int) 5) (std.rint a (i : Int) 6) (std.rint a (i : Int) 7) (std.rint a (i : Int) 8) (std.rint a (i : Int) 9) (std.rint a (i : Int) 10) (std.rbool a (i : Int) 11) (std.rsi a (i : Int) 12) (std.rsv 2 a (i : Int) 13) (std.rsv 2 a (i : Int) 14) (std.rsr a (i : Int) 15) (std.rsv 3 a (i : Int) 16) (std.rsi a (i : Int) 17) (std.rbool a (i : Int) 18) (std.rint a (i : Int) 19) (std.rint a (i : Int) 20) (std.rint a (i : Int) 21) (std.rint a (i : Int) 22) (std.rint a (i : Int) 23) (std.rint a (i : Int) 24) (std.rint a (i : Int) 25) (std.rint a (i : Int) 26) (std.rint a (i : Int) 27) (std.rsv 2 a (i : Int) 28) (std.rsi a (i : Int) 29) (std.rint a (i : Int) 30) (std.rint a (i : Int) 31) (std.rint a (i : Int) 32) (std.rbool a (i : Int) 33) (std.rsi a (i : Int) 34) (std.rsv 2 a (i : Int) 35) (std.rsv 3 a (i : Int) 36) (std.rsi a (i : Int) 37) (std.rsv 2 a (i : Int) 38) (std.rsr a (i : Int) 39) ((h.2 i hi).1) ((h.2 i hi).2.1) (rsv_wide _ _ _ _) ((h.2 i hi).2.2.1) (rsv_wide _ _ _ _) ((h.2 i hi).2.2.2.1) ((h.2 i hi).2.2.2.2.1) (rsv_wide _ _ _ _) ((h.2 i hi).2.2.2.2.2.1) ((h.2 i hi).2.2.2.2.2.2.1) (rsv_wide _ _ _ _) ((h.2 i hi).2.2.2.2.2.2.2.1) ((h.2 i hi).2.2.2.2.2.2.2.2.1) ((h.2 i hi).2.2.2.2.2.2.2.2.2.1) (rsv_wide _ _ _ _) ((h.2 i hi).2.2.2.2.2.2.2.2.2.2.1) (rsv_wide _ _ _ _) ((h.2 i hi).2.2.2.2.2.2.2.2.2.2.2.1) ((h.2 i hi).2.2.2.2.2.2.2.2.2.2.2.2.1) (rsv_wide _ _ _ _) ((h.2 i hi).2.2.2.2.2.2.2.2.2.2.2.2.2) (k := kk)
    simp only [laws_toRootS_l0, std_rlen, lt_nat_t hi, inb_nat_t hi, bt, ho, hv, std_rput, Int.toNat_natCast, add1 (i := i) (by omega)]
    try rfl
  · simp only [laws_toRootS_l0, std_rlen, lt_nat_f (Nat.le_refl _), bf]
theorem rdRoot_12 (a : List (List C)) (i : Nat) (hi : i < a.length) : (std.rsi (nRootS a) (i : Int) 12) = (std.rsi a (i : Int) 12) := by
  show ((asRows (cOf (nRootS a) (i : Int).toNat 12)).map fun r => asInt (cAt r 0)) = _
  rw [Int.toNat_natCast, nRootS, cOf_fill _ hi]
  exact rsi_cell _
theorem rdRoot_13 (a : List (List C)) (i : Nat) (hi : i < a.length) : (std.rsv 2 (nRootS a) (i : Int) 13) = (std.rsv 2 a (i : Int) 13) := by
  show ((asRows (cOf (nRootS a) (i : Int).toNat 13)).map fun r => (List.range 2).map fun q => asInt (cAt r q)) = _
  rw [Int.toNat_natCast, nRootS, cOf_fill _ hi]
  exact rsv_cell (rsv_wide _ _ _ _)
theorem rdRoot_14 (a : List (List C)) (i : Nat) (hi : i < a.length) : (std.rsv 2 (nRootS a) (i : Int) 14) = (std.rsv 2 a (i : Int) 14) := by
  show ((asRows (cOf (nRootS a) (i : Int).toNat 14)).map fun r => (List.range 2).map fun q => asInt (cAt r q)) = _
  rw [Int.toNat_natCast, nRootS, cOf_fill _ hi]
  exact rsv_cell (rsv_wide _ _ _ _)
theorem rdRoot_15 (a : List (List C)) (i : Nat) (hi : i < a.length) : (std.rsr (nRootS a) (i : Int) 15) = nMarkS (std.rsr a (i : Int) 15) := by
  show asRows (cOf (nRootS a) (i : Int).toNat 15) = _
  rw [Int.toNat_natCast, nRootS, cOf_fill _ hi]
  exact rfl
theorem rdRoot_16 (a : List (List C)) (i : Nat) (hi : i < a.length) : (std.rsv 3 (nRootS a) (i : Int) 16) = (std.rsv 3 a (i : Int) 16) := by
  show ((asRows (cOf (nRootS a) (i : Int).toNat 16)).map fun r => (List.range 3).map fun q => asInt (cAt r q)) = _
  rw [Int.toNat_natCast, nRootS, cOf_fill _ hi]
  exact rsv_cell (rsv_wide _ _ _ _)
theorem rdRoot_17 (a : List (List C)) (i : Nat) (hi : i < a.length) : (std.rsi (nRootS a) (i : Int) 17) = (std.rsi a (i : Int) 17) := by
  show ((asRows (cOf (nRootS a) (i : Int).toNat 17)).map fun r => asInt (cAt r 0)) = _
  rw [Int.toNat_natCast, nRootS, cOf_fill _ hi]
  exact rsi_cell _
theorem rdRoot_28 (a : List (List C)) (i : Nat) (hi : i < a.length) : (std.rsv 2 (nRootS a) (i : Int) 28) = (std.rsv 2 a (i : Int) 28) := by
  show ((asRows (cOf (nRootS a) (i : Int).toNat 28)).map fun r => (List.range 2).map fun q => asInt (cAt r q)) = _
  rw [Int.toNat_natCast, nRootS, cOf_fill _ hi]
  exact rsv_cell (rsv_wide _ _ _ _)
theorem rdRoot_29 (a : List (List C)) (i : Nat) (hi : i < a.length) : (std.rsi (nRootS a) (i : Int) 29) = (std.rsi a (i : Int) 29) := by
  show ((asRows (cOf (nRootS a) (i : Int).toNat 29)).map fun r => asInt (cAt r 0)) = _
  rw [Int.toNat_natCast, nRootS, cOf_fill _ hi]
  exact rsi_cell _
theorem rdRoot_34 (a : List (List C)) (i : Nat) (hi : i < a.length) : (std.rsi (nRootS a) (i : Int) 34) = (std.rsi a (i : Int) 34) := by
  show ((asRows (cOf (nRootS a) (i : Int).toNat 34)).map fun r => asInt (cAt r 0)) = _
  rw [Int.toNat_natCast, nRootS, cOf_fill _ hi]
  exact rsi_cell _
theorem rdRoot_35 (a : List (List C)) (i : Nat) (hi : i < a.length) : (std.rsv 2 (nRootS a) (i : Int) 35) = (std.rsv 2 a (i : Int) 35) := by
  show ((asRows (cOf (nRootS a) (i : Int).toNat 35)).map fun r => (List.range 2).map fun q => asInt (cAt r q)) = _
  rw [Int.toNat_natCast, nRootS, cOf_fill _ hi]
  exact rsv_cell (rsv_wide _ _ _ _)
theorem rdRoot_36 (a : List (List C)) (i : Nat) (hi : i < a.length) : (std.rsv 3 (nRootS a) (i : Int) 36) = (std.rsv 3 a (i : Int) 36) := by
  show ((asRows (cOf (nRootS a) (i : Int).toNat 36)).map fun r => (List.range 3).map fun q => asInt (cAt r q)) = _
  rw [Int.toNat_natCast, nRootS, cOf_fill _ hi]
  exact rsv_cell (rsv_wide _ _ _ _)
theorem rdRoot_37 (a : List (List C)) (i : Nat) (hi : i < a.length) : (std.rsi (nRootS a) (i : Int) 37) = (std.rsi a (i : Int) 37) := by
  show ((asRows (cOf (nRootS a) (i : Int).toNat 37)).map fun r => asInt (cAt r 0)) = _
  rw [Int.toNat_natCast, nRootS, cOf_fill _ hi]
  exact rsi_cell _
theorem rdRoot_38 (a : List (List C)) (i : Nat) (hi : i < a.length) : (std.rsv 2 (nRootS a) (i : Int) 38) = (std.rsv 2 a (i : Int) 38) := by
  show ((asRows (cOf (nRootS a) (i : Int).toNat 38)).map fun r => (List.range 2).map fun q => asInt (cAt r q)) = _
  rw [Int.toNat_natCast, nRootS, cOf_fill _ hi]
  exact rsv_cell (rsv_wide _ _ _ _)
theorem rdRoot_39 (a : List (List C)) (i : Nat) (hi : i < a.length) : (std.rsr (nRootS a) (i : Int) 39) = nKidRunS (std.rsr a (i : Int) 39) := by
  show asRows (cOf (nRootS a) (i : Int).toNat 39) = _
  rw [Int.toNat_natCast, nRootS, cOf_fill _ hi]
  exact rfl
theorem lenRootS (a : List (List C)) : (nRootS a).length = a.length := by simp [nRootS]
theorem bRootS_n (a : List (List C)) (h : bRootS a) : bRootS (nRootS a) := ⟨by rw [lenRootS]; exact h.1, fun i hi => by
  rw [lenRootS] at hi
  exact ⟨(by rw [rdRoot_12 a i hi]; exact (h.2 i hi).1), (by rw [rdRoot_13 a i hi]; exact (h.2 i hi).2.1), (by rw [rdRoot_14 a i hi]; exact (h.2 i hi).2.2.1), (by rw [rdRoot_15 a i hi]; exact bMarkS_n _ (h.2 i hi).2.2.2.1), (by rw [rdRoot_16 a i hi]; exact (h.2 i hi).2.2.2.2.1), (by rw [rdRoot_17 a i hi]; exact (h.2 i hi).2.2.2.2.2.1), (by rw [rdRoot_28 a i hi]; exact (h.2 i hi).2.2.2.2.2.2.1), (by rw [rdRoot_29 a i hi]; exact (h.2 i hi).2.2.2.2.2.2.2.1), (by rw [rdRoot_34 a i hi]; exact (h.2 i hi).2.2.2.2.2.2.2.2.1), (by rw [rdRoot_35 a i hi]; exact (h.2 i hi).2.2.2.2.2.2.2.2.2.1), (by rw [rdRoot_36 a i hi]; exact (h.2 i hi).2.2.2.2.2.2.2.2.2.2.1), (by rw [rdRoot_37 a i hi]; exact (h.2 i hi).2.2.2.2.2.2.2.2.2.2.2.1), (by rw [rdRoot_38 a i hi]; exact (h.2 i hi).2.2.2.2.2.2.2.2.2.2.2.2.1), (by rw [rdRoot_39 a i hi]; exact bKidRunS_n _ (h.2 i hi).2.2.2.2.2.2.2.2.2.2.2.2.2)⟩⟩
theorem eqRootS_r (a : List (List C)) (h : bRootS a) (k : Bool → R) : laws_eqRootS std a a k = k true := by
  have hb := h.1
  unfold laws_eqRootS laws_eqRootS_f
  generalize hN : std.fuel = N
  have hN : 4294967296 = N := hN
  have es : ∀ x : Int, std.not (std.eq x x) = false := fun x => by simp
  have lp : laws_eqRootS_l0 std (laws_eqRoot std) N a a 0 (fun t => k t) (fun _ => k true) = k true := by
    refine loop_true (F := fun n i => laws_eqRootS_l0 std (laws_eqRoot std) n a a i (fun t => k t) (fun _ => k true)) (len := a.length) (by omega) (fun n i hi => ?_) (fun n => ?_)
    · have hv := fun kk => eqRoot_r (std.rint a (i : Int) 0) (std.rint a (i : Int) 1) (std.rint a (i : Int) 2) (std.rint a (i : Int) 3) (std.rint a (i : Int) 4) (std.rint a (i : Int) 5) (std.rint a (i : Int) 6) (std.rint a (i : Int) 7) (std.rint a (i : Int) 8) (std.rint a (i : Int) 9) (std.rint a (i : Int) 10) (std.rbool a (i : Int) 11) (std.rsi a (i : Int) 12) (std.rsv 2 a (i : Int) 13) (std.rsv 2 a (i : Int) 14) (std.rsr a (i : Int) 15) (std.rsv 3 a (i : Int) 16) (std.rsi a (i : Int) 17) (std.rbool a (i : Int) 18) (std.rint a (i : Int) 19) (std.rint a (i : Int) 20) (std.rint a (i : Int) 21) (std.rint a (i : Int) 22) (std.rint a (i : Int) 23) (std.rint a (i : Int) 24) (std.rint a (i : Int) 25) (std.rint a (i : Int) 26) (std.rint a (i : Int) 27) (std.rsv 2 a (i : Int) 28) (std.rsi a (i : Int) 29) (std.rint a (i : Int) 30) (std.rint a (i : Int) 31) (std.rint a (i : Int) 32) (std.rbool a (i : Int) 33) (std.rsi a (i : Int) 34) (std.rsv 2 a (i : Int) 35) (std.rsv 3 a (i : Int) 36) (std.rsi a (i : Int) 37) (std.rsv 2 a (i : Int) 38) (std.rsr a (i : Int) 39) ((h.2 i hi).1) ((h.2 i hi).2.1) ((h.2 i hi).2.2.1) ((h.2 i hi).2.2.2.1) ((h.2 i hi).2.2.2.2.1) ((h.2 i hi).2.2.2.2.2.1) ((h.2 i hi).2.2.2.2.2.2.1) ((h.2 i hi).2.2.2.2.2.2.2.1) ((h.2 i hi).2.2.2.2.2.2.2.2.1) ((h.2 i hi).2.2.2.2.2.2.2.2.2.1) ((h.2 i hi).2.2.2.2.2.2.2.2.2.2.1) ((h.2 i hi).2.2.2.2.2.2.2.2.2.2.2.1) ((h.2 i hi).2.2.2.2.2.2.2.2.2.2.2.2.1) ((h.2 i hi).2.2.2.2.2.2.2.2.2.2.2.2.2) (k := kk)
      simp only [laws_eqRootS_l0, std_rlen, lt_nat_t hi, inb_nat_t hi, bt, bf, hv, not_true', add1 (i := i) (by omega)]
    · simp only [laws_eqRootS_l0, std_rlen, lt_nat_f (Nat.le_refl _), bf]
  rw [es, bf, lp]
theorem szWrote_v (x_Stamp : Int) (x_Who : Int) (x_Puts : List (List Int)) (h_Puts : x_Puts.length ≤ maxLen) (left : Int) (l0 : 0 ≤ left) (l1 : left ≤ 1048576) : ∃ v, v ≤ left ∧ (0 ≤ v → x_Puts.length ≤ 1048576) ∧ ∀ k, laws_szWrote std x_Stamp x_Who x_Puts left k = k v := by
  obtain ⟨v0, a0, b0, k0⟩ := szRowS_v x_Puts h_Puts left l0 l1
  by_cases c0 : v0 < 0
  · exact ⟨-1, by omega, fun h => by omega, fun k => by simp only [laws_szWrote, laws_szWrote_f, k0, lt0_t c0, bt]⟩
  exact ⟨v0, by omega, fun _ => b0 (by omega), fun k => by simp only [laws_szWrote, laws_szWrote_f, k0, lt0_f c0, bf]⟩
theorem toWrote_v (x_Stamp : Int) (x_Who : Int) (x_Puts : List (List Int)) (h_Puts : x_Puts.length ≤ 1048576) (w_Puts : ∀ r ∈ x_Puts, r.length = 2) (k : (Int) → (Int) → (List (List Int)) → R) : laws_toWrote std x_Stamp x_Who x_Puts k = k x_Stamp x_Who x_Puts := by
  simp only [laws_toWrote, laws_toWrote_f, toRowS_v x_Puts h_Puts w_Puts]
theorem eqWrote_r (x_Stamp : Int) (x_Who : Int) (x_Puts : List (List Int)) (h_Puts : x_Puts.length ≤ 1048576) (k : Bool → R) : laws_eqWrote std x_Stamp x_Who x_Puts x_Stamp x_Who x_Puts k = k true := by
  have es : ∀ x : Int, std.not (std.eq x x) = false := fun x => by simp
  have eb : ∀ x : Bool, std.not (std.beq x x) = false := fun x => by simp
  simp only [laws_eqWrote, laws_eqWrote_f, es, eb, bt, bf, not_true', eqRowS_r x_Puts h_Puts]
def nWrote (a : List (List C)) (i : Nat) : List C := [.i (std.rint a (i : Int) 0), .i (std.rint a (i : Int) 1), .s (std.ofv (std.rsv 2 a (i : Int) 2))]
def nWroteS (a : List (List C)) : List (List C) := (List.range a.length).map (nWrote a)
def bWrote (a : List (List C)) (i : Nat) : Prop := (std.rsv 2 a (i : Int) 2).length ≤ 1048576
def bWroteS (a : List (List C)) : Prop := a.length ≤ 1048576 ∧ ∀ i, i < a.length → bWrote a i
theorem szWroteS_v (a : List (List C)) (h : FitArr cx (.rows 195 a)) (left : Int) (h0 : 0 ≤ left) (h1 : left ≤ 1048576) : ∃ v, v ≤ left ∧ (0 ≤ v → bWroteS a) ∧ ∀ k, laws_szWroteS std a left k = k v := by
  have hm : maxLen = 9223372036854775807 := by decide
  have hl := fit_len h
  have e : std.sub .i64 left (a.length : Int) = left - a.length := by rw [std_sub]; exact i64_wrap (by omega) (by omega)
  unfold laws_szWroteS laws_szWroteS_f
  simp only [std_rlen, e, std_lt]
  generalize hN : std.fuel = N
  have hN : 4294967296 = N := hN
  by_cases hc : left - (a.length : Int) < 0
  · exact ⟨-1, by omega, fun h => by omega, fun k => by simp only [decide_eq_true hc, bt]⟩
  · have hs : ∀ i left, i < a.length → 0 ≤ left → left ≤ 1048576 → ∃ v, v ≤ left ∧ (0 ≤ v → bWrote a i) ∧ ∀ k n, laws_szWroteS_l0 std (laws_szWrote std) (n + 1) a left (i : Int) k k = bif std.lt v 0 then k (-1) else laws_szWroteS_l0 std (laws_szWrote std) n a v ((i + 1 : Nat) : Int) k k := fun i left hi l0 l1 => by
      obtain ⟨v, v1, v2, v3⟩ := szWrote_v (std.rint a (i : Int) 0) (std.rint a (i : Int) 1) (std.rsv 2 a (i : Int) 2) (fit_rsv h rfl hi (j := 2) (by decide) rfl rfl rfl).1 left l0 l1
      exact ⟨v, v1, v2, fun k n => by simp only [laws_szWroteS_l0, std_rlen, lt_nat_t hi, inb_nat_t hi, bt, v3, add1 (i := i) (by omega)]⟩
    have he : ∀ (k : Int → R) n left, laws_szWroteS_l0 std (laws_szWrote std) (n + 1) a left (a.length : Int) k k = k left := fun k n left => by simp only [laws_szWroteS_l0, std_rlen, lt_nat_f (Nat.le_refl _), bf]
    obtain ⟨v, v1, v2, v3⟩ := loop_left (F := fun k n i left => laws_szWroteS_l0 std (laws_szWrote std) n a left i k k) (P := bWrote a) (len := a.length) (N := N) (by omega) hs he (left - a.length) (by omega) (by omega)
    exact ⟨v, by omega, fun h => ⟨by omega, v2 h⟩, fun k => by simp only [decide_eq_false hc, bf]; exact v3 k⟩
theorem toWroteS_v (a : List (List C)) (h : bWroteS a) (k : List (List C) → R) : laws_toWroteS std a k = k (nWroteS a) := by
  have hb := h.1
  unfold laws_toWroteS laws_toWroteS_f
  generalize hN : std.fuel = N
  have hN : 4294967296 = N := hN
  have e1 : std.mkOk (a.length : Int) = true := by rw [std_mkOk]; exact decide_eq_true (by omega)
  have e2 : std.le (a.length : Int) (a.length : Int) = true := by rw [std_le]; exact decide_eq_true (Int.le_refl _)
  simp only [std_rlen, e1, e2, bt, std_rzero, Int.toNat_natCast]
  refine loop_fill (nWrote a) _ (len := a.length) (F := fun n i o => laws_toWroteS_l0 std (laws_toWrote std) n a i o (fun o => k o)) (kx := k) (N := N) (by omega) (fun n i o hi ho => ?_) (fun n o => ?_)
  · have hv := fun kk => toWrote_v (std.rint a (i : Int) 0) (std.rint a (i : Int) 1) (std.rsv 2 a (i : Int) 2) (h.2 i hi) (rsv_wide _ _ _ _) (k := kk)
    simp only [laws_toWroteS_l0, std_rlen, lt_nat_t hi, inb_nat_t hi, bt, ho, hv, std_rput, Int.toNat_natCast, add1 (i := i) (by omega)]
    try rfl
  · simp only [laws_toWroteS_l0, std_rlen, lt_nat_f (Nat.le_refl _), bf]
theorem rdWrote_2 (a : List (List C)) (i : Nat) (hi : i < a.length) : (std.rsv 2 (nWroteS a) (i : Int) 2) = (std.rsv 2 a (i : Int) 2) := by
  show ((asRows (cOf (nWroteS a) (i : Int).toNat 2)).map fun r => (List.range 2).map fun q => asInt (cAt r q)) = _
  rw [Int.toNat_natCast, nWroteS, cOf_fill _ hi]
  exact rsv_cell (rsv_wide _ _ _ _)
theorem lenWroteS (a : List (List C)) : (nWroteS a).length = a.length := by simp [nWroteS]
theorem bWroteS_n (a : List (List C)) (h : bWroteS a) : bWroteS (nWroteS a) := ⟨by rw [lenWroteS]; exact h.1, fun i hi => by
  rw [lenWroteS] at hi
  exact (by unfold bWrote; rw [rdWrote_2 a i hi]; exact h.2 i hi)⟩
theorem eqWroteS_r (a : List (List C)) (h : bWroteS a) (k : Bool → R) : laws_eqWroteS std a a k = k true := by
  have hb := h.1
  unfold laws_eqWroteS laws_eqWroteS_f
  generalize hN : std.fuel = N
  have hN : 4294967296 = N := hN
  have es : ∀ x : Int, std.not (std.eq x x) = false := fun x => by simp
  have lp : laws_eqWroteS_l0 std (laws_eqWrote std) N a a 0 (fun t => k t) (fun _ => k true) = k true := by
    refine loop_true (F := fun n i => laws_eqWroteS_l0 std (laws_eqWrote std) n a a i (fun t => k t) (fun _ => k true)) (len := a.length) (by omega) (fun n i hi => ?_) (fun n => ?_)
    · have hv := fun kk => eqWrote_r (std.rint a (i : Int) 0) (std.rint a (i : Int) 1) (std.rsv 2 a (i : Int) 2) (h.2 i hi) (k := kk)
      simp only [laws_eqWroteS_l0, std_rlen, lt_nat_t hi, inb_nat_t hi, bt, bf, hv, not_true', add1 (i := i) (by omega)]
    · simp only [laws_eqWroteS_l0, std_rlen, lt_nat_f (Nat.le_refl _), bf]
  rw [es, bf, lp]
theorem szWorld_v (x_Now : Int) (x_Token : Int) (x_Mem_Clock : Int) (x_Mem_Cells : List (List Int)) (x_Shelf_Slots : List Int) (x_Shelf_Count : Int) (x_Holds : List (List Int)) (x_Roots : List (List C)) (x_Hist : List (List C)) (h_Mem_Cells : x_Mem_Cells.length ≤ maxLen) (h_Shelf_Slots : x_Shelf_Slots.length ≤ maxLen) (h_Holds : x_Holds.length ≤ maxLen) (h_Roots : FitArr cx (.rows 272 x_Roots)) (h_Hist : FitArr cx (.rows 195 x_Hist)) (left : Int) (l0 : 0 ≤ left) (l1 : left ≤ 1048576) : ∃ v, v ≤ left ∧ (0 ≤ v → x_Mem_Cells.length ≤ 1048576 ∧ x_Shelf_Slots.length ≤ 1048576 ∧ x_Holds.length ≤ 1048576 ∧ bRootS x_Roots ∧ bWroteS x_Hist) ∧ ∀ k, laws_szWorld std x_Now x_Token x_Mem_Clock x_Mem_Cells x_Shelf_Slots x_Shelf_Count x_Holds x_Roots x_Hist left k = k v := by
  obtain ⟨v0, a0, b0, k0⟩ := szMem_v x_Mem_Clock x_Mem_Cells h_Mem_Cells left l0 l1
  by_cases c0 : v0 < 0
  · exact ⟨-1, by omega, fun h => by omega, fun k => by simp only [laws_szWorld, laws_szWorld_f, k0, lt0_t c0, bt]⟩
  obtain ⟨v1, a1, b1, k1⟩ := szShelf_v x_Shelf_Slots x_Shelf_Count h_Shelf_Slots v0 (by omega) (by omega)
  by_cases c1 : v1 < 0
  · exact ⟨-1, by omega, fun h => by omega, fun k => by simp only [laws_szWorld, laws_szWorld_f, k0, k1, lt0_t c1, bt, lt0_f c0, bf]⟩
  obtain ⟨v2, a2, b2, k2⟩ := szHoldS_v x_Holds h_Holds v1 (by omega) (by omega)
  by_cases c2 : v2 < 0
  · exact ⟨-1, by omega, fun h => by omega, fun k => by simp only [laws_szWorld, laws_szWorld_f, k0, k1, k2, lt0_t c2, bt, lt0_f c0, lt0_f c1, bf]⟩
  obtain ⟨v3, a3, b3, k3⟩ := szRootS_v x_Roots h_Roots v2 (by omega) (by omega)
  by_cases c3 : v3 < 0
  · exact ⟨-1, by omega, fun h => by omega, fun k => by simp only [laws_szWorld, laws_szWorld_f, k0, k1, k2, k3, lt0_t c3, bt, lt0_f c0, lt0_f c1, lt0_f c2, bf]⟩
  obtain ⟨v4, a4, b4, k4⟩ := szWroteS_v x_Hist h_Hist v3 (by omega) (by omega)
  by_cases c4 : v4 < 0
  · exact ⟨-1, by omega, fun h => by omega, fun k => by simp only [laws_szWorld, laws_szWorld_f, k0, k1, k2, k3, k4, lt0_t c4, bt, lt0_f c0, lt0_f c1, lt0_f c2, lt0_f c3, bf]⟩
  exact ⟨v4, by omega, fun _ => ⟨b0 (by omega), b1 (by omega), b2 (by omega), b3 (by omega), b4 (by omega)⟩, fun k => by simp only [laws_szWorld, laws_szWorld_f, k0, k1, k2, k3, k4, lt0_f c0, lt0_f c1, lt0_f c2, lt0_f c3, lt0_f c4, bf]⟩
theorem toWorld_v (x_Now : Int) (x_Token : Int) (x_Mem_Clock : Int) (x_Mem_Cells : List (List Int)) (x_Shelf_Slots : List Int) (x_Shelf_Count : Int) (x_Holds : List (List Int)) (x_Roots : List (List C)) (x_Hist : List (List C)) (h_Mem_Cells : x_Mem_Cells.length ≤ 1048576) (w_Mem_Cells : ∀ r ∈ x_Mem_Cells, r.length = 3) (h_Shelf_Slots : x_Shelf_Slots.length ≤ 1048576) (h_Holds : x_Holds.length ≤ 1048576) (w_Holds : ∀ r ∈ x_Holds, r.length = 3) (h_Roots : bRootS x_Roots) (h_Hist : bWroteS x_Hist) (k : (Int) → (Int) → (Int) → (List (List Int)) → (List Int) → (Int) → (List (List Int)) → (List (List C)) → (List (List C)) → R) : laws_toWorld std x_Now x_Token x_Mem_Clock x_Mem_Cells x_Shelf_Slots x_Shelf_Count x_Holds x_Roots x_Hist k = k x_Now x_Token x_Mem_Clock x_Mem_Cells x_Shelf_Slots x_Shelf_Count x_Holds (nRootS x_Roots) (nWroteS x_Hist) := by
  simp only [laws_toWorld, laws_toWorld_f, toMem_v x_Mem_Clock x_Mem_Cells h_Mem_Cells w_Mem_Cells, toShelf_v x_Shelf_Slots x_Shelf_Count h_Shelf_Slots, toHoldS_v x_Holds h_Holds w_Holds, toRootS_v x_Roots h_Roots, toWroteS_v x_Hist h_Hist]
theorem eqWorld_r (x_Now : Int) (x_Token : Int) (x_Mem_Clock : Int) (x_Mem_Cells : List (List Int)) (x_Shelf_Slots : List Int) (x_Shelf_Count : Int) (x_Holds : List (List Int)) (x_Roots : List (List C)) (x_Hist : List (List C)) (h_Mem_Cells : x_Mem_Cells.length ≤ 1048576) (h_Shelf_Slots : x_Shelf_Slots.length ≤ 1048576) (h_Holds : x_Holds.length ≤ 1048576) (h_Roots : bRootS x_Roots) (h_Hist : bWroteS x_Hist) (k : Bool → R) : laws_eqWorld std x_Now x_Token x_Mem_Clock x_Mem_Cells x_Shelf_Slots x_Shelf_Count x_Holds x_Roots x_Hist x_Now x_Token x_Mem_Clock x_Mem_Cells x_Shelf_Slots x_Shelf_Count x_Holds x_Roots x_Hist k = k true := by
  have es : ∀ x : Int, std.not (std.eq x x) = false := fun x => by simp
  have eb : ∀ x : Bool, std.not (std.beq x x) = false := fun x => by simp
  simp only [laws_eqWorld, laws_eqWorld_f, es, eb, bt, bf, not_true', eqMem_r x_Mem_Clock x_Mem_Cells h_Mem_Cells, eqShelf_r x_Shelf_Slots x_Shelf_Count h_Shelf_Slots, eqHoldS_r x_Holds h_Holds, eqRootS_r x_Roots h_Roots, eqWroteS_r x_Hist h_Hist]
end X
