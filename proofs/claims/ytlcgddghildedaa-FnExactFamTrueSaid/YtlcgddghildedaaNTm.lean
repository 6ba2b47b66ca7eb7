/- Models of the functions, or plain laws about them; each theorem states its own conditions. -/
import Derived.Test.YtlcgddghildedaaMdl2
import Derived.Test.YtlcgddghildedaaQN1
import Derived.Test.YtlcgddghildedaaPlH
set_option linter.unusedVariables false
set_option linter.unusedSimpArgs false
open Go.Proofs
namespace X
open PM Go
theorem szIntS_v (a : List Int) (h : a.length ≤ maxLen) (left : Int) (h0 : 0 ≤ left) (h1 : left ≤ 1048576) : ∃ v, v ≤ left ∧ (0 ≤ v → a.length ≤ 1048576) ∧ ∀ k, laws_szIntS std a left k = k v := by
  have hm : maxLen = 9223372036854775807 := by decide
  have e : std.sub .i64 left (a.length : Int) = left - a.length := by rw [std_sub]; exact i64_wrap (by omega) (by omega)
  unfold laws_szIntS laws_szIntS_f
  simp only [std_ilen, e, std_lt]
  by_cases hc : left - (a.length : Int) < 0
  · exact ⟨-1, by omega, fun h => by omega, fun k => by simp only [decide_eq_true hc, bt]⟩
  · exact ⟨left - a.length, by omega, fun _ => by omega, fun k => by simp only [decide_eq_false hc, bf]⟩
theorem toIntS_v (a : List Int) (hb : a.length ≤ 1048576) (k : List Int → R) : laws_toIntS std a k = k a := by
  unfold laws_toIntS laws_toIntS_f
  generalize hN : std.fuel = N
  have hN : 4294967296 = N := hN
  have e1 : std.mkOk (a.length : Int) = true := by rw [std_mkOk]; exact decide_eq_true (by omega)
  have e2 : std.le (a.length : Int) (a.length : Int) = true := by rw [std_le]; exact decide_eq_true (Int.le_refl _)
  simp only [std_ilen, e1, e2, bt, std_izero, Int.toNat_natCast]
  have h := loop_fill (fun i => a.getD i 0) (0 : Int) (len := a.length) (F := fun n i o => laws_toIntS_l0 std n a i o (fun o => k o)) (kx := k) (N := N) (by omega) (fun n i o hi ho => ?_) (fun n o => ?_)
  · rw [h, range_getD]
  · simp only [laws_toIntS_l0, std_ilen, lt_nat_t hi, inb_nat_t hi, bt, ho, std_iget, std_iset, Int.toNat_natCast, add1 (i := i) (by omega)]
  · simp only [laws_toIntS_l0, std_ilen, lt_nat_f (Nat.le_refl _), bf]
theorem eqIntS_r (a : List Int) (hb : a.length ≤ 1048576) (k : Bool → R) : laws_eqIntS std a a k = k true := by
  unfold laws_eqIntS laws_eqIntS_f
  generalize hN : std.fuel = N
  have hN : 4294967296 = N := hN
  have es : ∀ x : Int, std.not (std.eq x x) = false := fun x => by simp
  have lp : laws_eqIntS_l0 std N a a 0 (fun t => k t) (fun _ => k true) = k true := by
    refine loop_true (F := fun n i => laws_eqIntS_l0 std n a a i (fun t => k t) (fun _ => k true)) (len := a.length) (by omega) (fun n i hi => ?_) (fun n => ?_)
    · simp only [laws_eqIntS_l0, std_ilen, lt_nat_t hi, inb_nat_t hi, bt, bf, std_iget, es, add1 (i := i) (by omega)]
    · simp only [laws_eqIntS_l0, std_ilen, lt_nat_f (Nat.le_refl _), bf]
  rw [es, bf, lp]
theorem szRowS_v (a : List (List Int)) (h : a.length ≤ maxLen) (left : Int) (h0 : 0 ≤ left) (h1 : left ≤ 1048576) : ∃ v, v ≤ left ∧ (0 ≤ v → a.length ≤ 1048576) ∧ ∀ k, laws_szRowS std a left k = k v := by
  have hm : maxLen = 9223372036854775807 := by decide
  have e : std.sub .i64 left (a.length : Int) = left - a.length := by rw [std_sub]; exact i64_wrap (by omega) (by omega)
  unfold laws_szRowS laws_szRowS_f
  simp only [std_vlen, e, std_lt]
  by_cases hc : left - (a.length : Int) < 0
  · exact ⟨-1, by omega, fun h => by omega, fun k => by simp only [decide_eq_true hc, bt]⟩
  · exact ⟨left - a.length, by omega, fun _ => by omega, fun k => by simp only [decide_eq_false hc, bf]⟩
theorem toRowS_v (a : List (List Int)) (hb : a.length ≤ 1048576) (hw : ∀ r ∈ a, r.length = 2) (k : List (List Int) → R) : laws_toRowS std a k = k a := by
  unfold laws_toRowS laws_toRowS_f
  generalize hN : std.fuel = N
  have hN : 4294967296 = N := hN
  have e1 : std.mkOk (a.length : Int) = true := by rw [std_mkOk]; exact decide_eq_true (by omega)
  have e2 : std.le (a.length : Int) (a.length : Int) = true := by rw [std_le]; exact decide_eq_true (Int.le_refl _)
  simp only [std_vlen, e1, e2, bt, std_vzero, Int.toNat_natCast]
  have h := loop_fill (fun i => a.getD i []) ((List.replicate 2 0) : List Int) (len := a.length) (F := fun n i o => laws_toRowS_l0 std (laws_toRow std) n a i o (fun o => k o)) (kx := k) (N := N) (by omega) (fun n i o hi ho => ?_) (fun n o => ?_)
  · rw [h, range_getD]
  · simp only [laws_toRowS_l0, std_vlen, lt_nat_t hi, inb_nat_t hi, bt, ho, laws_toRow, laws_toRow_f, std_vget, std_vput, Int.toNat_natCast, row2 (hw _ (getD_mem hi)), add1 (i := i) (by omega)]
  · simp only [laws_toRowS_l0, std_vlen, lt_nat_f (Nat.le_refl _), bf]
theorem eqRowS_r (a : List (List Int)) (hb : a.length ≤ 1048576) (k : Bool → R) : laws_eqRowS std a a k = k true := by
  unfold laws_eqRowS laws_eqRowS_f
  generalize hN : std.fuel = N
  have hN : 4294967296 = N := hN
  have es : ∀ x : Int, std.not (std.eq x x) = false := fun x => by simp
  have lp : laws_eqRowS_l0 std (laws_eqRow std) N a a 0 (fun t => k t) (fun _ => k true) = k true := by
    refine loop_true (F := fun n i => laws_eqRowS_l0 std (laws_eqRow std) n a a i (fun t => k t) (fun _ => k true)) (len := a.length) (by omega) (fun n i hi => ?_) (fun n => ?_)
    · simp only [laws_eqRowS_l0, std_vlen, lt_nat_t hi, inb_nat_t hi, bt, bf, laws_eqRow, laws_eqRow_f, es, not_true', add1 (i := i) (by omega)]
    · simp only [laws_eqRowS_l0, std_vlen, lt_nat_f (Nat.le_refl _), bf]
  rw [es, bf, lp]
theorem szEntryS_v (a : List (List Int)) (h : a.length ≤ maxLen) (left : Int) (h0 : 0 ≤ left) (h1 : left ≤ 1048576) : ∃ v, v ≤ left ∧ (0 ≤ v → a.length ≤ 1048576) ∧ ∀ k, laws_szEntryS std a left k = k v := by
  have hm : maxLen = 9223372036854775807 := by decide
  have e : std.sub .i64 left (a.length : Int) = left - a.length := by rw [std_sub]; exact i64_wrap (by omega) (by omega)
  unfold laws_szEntryS laws_szEntryS_f
  simp only [std_vlen, e, std_lt]
  by_cases hc : left - (a.length : Int) < 0
  · exact ⟨-1, by omega, fun h => by omega, fun k => by simp only [decide_eq_true hc, bt]⟩
  · exact ⟨left - a.length, by omega, fun _ => by omega, fun k => by simp only [decide_eq_false hc, bf]⟩
theorem toEntryS_v (a : List (List Int)) (hb : a.length ≤ 1048576) (hw : ∀ r ∈ a, r.length = 3) (k : List (List Int) → R) : laws_toEntryS std a k = k a := by
  unfold laws_toEntryS laws_toEntryS_f
  generalize hN : std.fuel = N
  have hN : 4294967296 = N := hN
  have e1 : std.mkOk (a.length : Int) = true := by rw [std_mkOk]; exact decide_eq_true (by omega)
  have e2 : std.le (a.length : Int) (a.length : Int) = true := by rw [std_le]; exact decide_eq_true (Int.le_refl _)
  simp only [std_vlen, e1, e2, bt, std_vzero, Int.toNat_natCast]
  have h := loop_fill (fun i => a.getD i []) ((List.replicate 3 0) : List Int) (len := a.length) (F := fun n i o => laws_toEntryS_l0 std (laws_toEntry std) n a i o (fun o => k o)) (kx := k) (N := N) (by omega) (fun n i o hi ho => ?_) (fun n o => ?_)
  · rw [h, range_getD]
  · simp only [laws_toEntryS_l0, std_vlen, lt_nat_t hi, inb_nat_t hi, bt, ho, laws_toEntry, laws_toEntry_f, std_vget, std_vput, Int.toNat_natCast, row3 (hw _ (getD_mem hi)), add1 (i := i) (by omega)]
  · simp only [laws_toEntryS_l0, std_vlen, lt_nat_f (Nat.le_refl _), bf]
theorem eqEntryS_r (a : List (List Int)) (hb : a.length ≤ 1048576) (k : Bool → R) : laws_eqEntryS std a a k = k true := by
  unfold laws_eqEntryS laws_eqEntryS_f
  generalize hN : std.fuel = N
  have hN : 4294967296 = N := hN
  have es : ∀ x : Int, std.not (std.eq x x) = false := fun x => by simp
  have lp : laws_eqEntryS_l0 std (laws_eqEntry std) N a a 0 (fun t => k t) (fun _ => k true) = k true := by
    refine loop_true (F := fun n i => laws_eqEntryS_l0 std (laws_eqEntry std) n a a i (fun t => k t) (fun _ => k true)) (len := a.length) (by omega) (fun n i hi => ?_) (fun n => ?_)
    · simp only [laws_eqEntryS_l0, std_vlen, lt_nat_t hi, inb_nat_t hi, bt, bf, laws_eqEntry, laws_eqEntry_f, es, not_true', add1 (i := i) (by omega)]
    · simp only [laws_eqEntryS_l0, std_vlen, lt_nat_f (Nat.le_refl _), bf]
  rw [es, bf, lp]
theorem szKidMark_v (x_Pc : Int) (x_Writes : Int) (x_Regs : List Int) (h_Regs : x_Regs.length ≤ maxLen) (left : Int) (l0 : 0 ≤ left) (l1 : left ≤ 1048576) : ∃ v, v ≤ left ∧ (0 ≤ v → x_Regs.length ≤ 1048576) ∧ ∀ k, laws_szKidMark std x_Pc x_Writes x_Regs left k = k v := by
  obtain ⟨v0, a0, b0, k0⟩ := szIntS_v x_Regs h_Regs left l0 l1
  by_cases c0 : v0 < 0
  · exact ⟨-1, by omega, fun h => by omega, fun k => by simp only [laws_szKidMark, laws_szKidMark_f, k0, lt0_t c0, bt]⟩
  exact ⟨v0, by omega, fun _ => b0 (by omega), fun k => by simp only [laws_szKidMark, laws_szKidMark_f, k0, lt0_f c0, bf]⟩
theorem toKidMark_v (x_Pc : Int) (x_Writes : Int) (x_Regs : List Int) (h_Regs : x_Regs.length ≤ 1048576) (k : (Int) → (Int) → (List Int) → R) : laws_toKidMark std x_Pc x_Writes x_Regs k = k x_Pc x_Writes x_Regs := by
  simp only [laws_toKidMark, laws_toKidMark_f, toIntS_v x_Regs h_Regs]
theorem eqKidMark_r (x_Pc : Int) (x_Writes : Int) (x_Regs : List Int) (h_Regs : x_Regs.length ≤ 1048576) (k : Bool → R) : laws_eqKidMark std x_Pc x_Writes x_Regs x_Pc x_Writes x_Regs k = k true := by
  have es : ∀ x : Int, std.not (std.eq x x) = false := fun x => by simp
  have eb : ∀ x : Bool, std.not (std.beq x x) = false := fun x => by simp
  simp only [laws_eqKidMark, laws_eqKidMark_f, es, eb, bt, bf, not_true', eqIntS_r x_Regs h_Regs]
def nKidMark (a : List (List C)) (i : Nat) : List C := [.i (std.rint a (i : Int) 0), .i (std.rint a (i : Int) 1), .s (std.ofi (std.rsi a (i : Int) 2))]
def nKidMarkS (a : List (List C)) : List (List C) := (List.range a.length).map (nKidMark a)
def bKidMark (a : List (List C)) (i : Nat) : Prop := (std.rsi a (i : Int) 2).length ≤ 1048576
def bKidMarkS (a : List (List C)) : Prop := a.length ≤ 1048576 ∧ ∀ i, i < a.length → bKidMark a i
theorem szKidMarkS_v (a : List (List C)) (h : FitArr cx (.rows 405 a)) (left : Int) (h0 : 0 ≤ left) (h1 : left ≤ 1048576) : ∃ v, v ≤ left ∧ (0 ≤ v → bKidMarkS a) ∧ ∀ k, laws_szKidMarkS std a left k = k v := by
  have hm : maxLen = 9223372036854775807 := by decide
  have hl := fit_len h
  have e : std.sub .i64 left (a.length : Int) = left - a.length := by rw [std_sub]; exact i64_wrap (by omega) (by omega)
  unfold laws_szKidMarkS laws_szKidMarkS_f
  simp only [std_rlen, e, std_lt]
  generalize hN : std.fuel = N
  have hN : 4294967296 = N := hN
  by_cases hc : left - (a.length : Int) < 0
  · exact ⟨-1, by omega, fun h => by omega, fun k => by simp only [decide_eq_true hc, bt]⟩
  · have hs : ∀ i left, i < a.length → 0 ≤ left → left ≤ 1048576 → ∃ v, v ≤ left ∧ (0 ≤ v → bKidMark a i) ∧ ∀ k n, laws_szKidMarkS_l0 std (laws_szKidMark std) (n + 1) a left (i : Int) k k = bif std.lt v 0 then k (-1) else laws_szKidMarkS_l0 std (laws_szKidMark std) n a v ((i + 1 : Nat) : Int) k k := fun i left hi l0 l1 => by
      obtain ⟨v, v1, v2, v3⟩ := szKidMark_v (std.rint a (i : Int) 0) (std.rint a (i : Int) 1) (std.rsi a (i : Int) 2) (fit_rsi h rfl hi (j := 2) (by decide) rfl rfl rfl).1 left l0 l1
      exact ⟨v, v1, v2, fun k n => by simp only [laws_szKidMarkS_l0, std_rlen, lt_nat_t hi, inb_nat_t hi, bt, v3, add1 (i := i) (by omega)]⟩
    have he : ∀ (k : Int → R) n left, laws_szKidMarkS_l0 std (laws_szKidMark std) (n + 1) a left (a.length : Int) k k = k left := fun k n left => by simp only [laws_szKidMarkS_l0, std_rlen, lt_nat_f (Nat.le_refl _), bf]
    obtain ⟨v, v1, v2, v3⟩ := loop_left (F := fun k n i left => laws_szKidMarkS_l0 std (laws_szKidMark std) n a left i k k) (P := bKidMark a) (len := a.length) (N := N) (by omega) hs he (left - a.length) (by omega) (by omega)
    exact ⟨v, by omega, fun h => ⟨by omega, v2 h⟩, fun k => by simp only [decide_eq_false hc, bf]; exact v3 k⟩
theorem toKidMarkS_v (a : List (List C)) (h : bKidMarkS a) (k : List (List C) → R) : laws_toKidMarkS std a k = k (nKidMarkS a) := by
  have hb := h.1
  unfold laws_toKidMarkS laws_toKidMarkS_f
  generalize hN : std.fuel = N
  have hN : 4294967296 = N := hN
  have e1 : std.mkOk (a.length : Int) = true := by rw [std_mkOk]; exact decide_eq_true (by omega)
  have e2 : std.le (a.length : Int) (a.length : Int) = true := by rw [std_le]; exact decide_eq_true (Int.le_refl _)
  simp only [std_rlen, e1, e2, bt, std_rzero, Int.toNat_natCast]
  refine loop_fill (nKidMark a) _ (len := a.length) (F := fun n i o => laws_toKidMarkS_l0 std (laws_toKidMark std) n a i o (fun o => k o)) (kx := k) (N := N) (by omega) (fun n i o hi ho => ?_) (fun n o => ?_)
  · have hv := fun kk => toKidMark_v (std.rint a (i : Int) 0) (std.rint a (i : Int) 1) (std.rsi a (i : Int) 2) (h.2 i hi) (k := kk)
    simp only [laws_toKidMarkS_l0, std_rlen, lt_nat_t hi, inb_nat_t hi, bt, ho, hv, std_rput, Int.toNat_natCast, add1 (i := i) (by omega)]
    try rfl
  · simp only [laws_toKidMarkS_l0, std_rlen, lt_nat_f (Nat.le_refl _), bf]
theorem rdKidMark_2 (a : List (List C)) (i : Nat) (hi : i < a.length) : (std.rsi (nKidMarkS a) (i : Int) 2) = (std.rsi a (i : Int) 2) := by
  show ((asRows (cOf (nKidMarkS a) (i : Int).toNat 2)).map fun r => asInt (cAt r 0)) = _
  rw [Int.toNat_natCast, nKidMarkS, cOf_fill _ hi]
  exact rsi_cell _
theorem lenKidMarkS (a : List (List C)) : (nKidMarkS a).length = a.length := by simp [nKidMarkS]
theorem bKidMarkS_n (a : List (List C)) (h : bKidMarkS a) : bKidMarkS (nKidMarkS a) := ⟨by rw [lenKidMarkS]; exact h.1, fun i hi => by
  rw [lenKidMarkS] at hi
  exact (by unfold bKidMark; rw [rdKidMark_2 a i hi]; exact h.2 i hi)⟩
theorem eqKidMarkS_r (a : List (List C)) (h : bKidMarkS a) (k : Bool → R) : laws_eqKidMarkS std a a k = k true := by
  have hb := h.1
  unfold laws_eqKidMarkS laws_eqKidMarkS_f
  generalize hN : std.fuel = N
  have hN : 4294967296 = N := hN
  have es : ∀ x : Int, std.not (std.eq x x) = false := fun x => by simp
  have lp : laws_eqKidMarkS_l0 std (laws_eqKidMark std) N a a 0 (fun t => k t) (fun _ => k true) = k true := by
    refine loop_true (F := fun n i => laws_eqKidMarkS_l0 std (laws_eqKidMark std) n a a i (fun t => k t) (fun _ => k true)) (len := a.length) (by omega) (fun n i hi => ?_) (fun n => ?_)
    · have hv := fun kk => eqKidMark_r (std.rint a (i : Int) 0) (std.rint a (i : Int) 1) (std.rsi a (i : Int) 2) (h.2 i hi) (k := kk)
      simp only [laws_eqKidMarkS_l0, std_rlen, lt_nat_t hi, inb_nat_t hi, bt, bf, hv, not_true', add1 (i := i) (by omega)]
    · simp only [laws_eqKidMarkS_l0, std_rlen, lt_nat_f (Nat.le_refl _), bf]
  rw [es, bf, lp]
theorem toProbe_v (x_Cell : Int) (x_Phase : Int) (x_Ver : Int) (x_Val : Int)  (k : (Int) → (Int) → (Int) → (Int) → R) : laws_toProbe std x_Cell x_Phase x_Ver x_Val k = k x_Cell x_Phase x_Ver x_Val := by
  simp only [laws_toProbe, laws_toProbe_f]
theorem eqProbe_r (x_Cell : Int) (x_Phase : Int) (x_Ver : Int) (x_Val : Int)  (k : Bool → R) : laws_eqProbe std x_Cell x_Phase x_Ver x_Val x_Cell x_Phase x_Ver x_Val k = k true := by
  have es : ∀ x : Int, std.not (std.eq x x) = false := fun x => by simp
  have eb : ∀ x : Bool, std.not (std.beq x x) = false := fun x => by simp
  simp only [laws_eqProbe, laws_eqProbe_f, es, eb, bt, bf, not_true']
theorem szKidRun_v (x_Phase : Int) (x_Pc : Int) (x_Since : Int) (x_Tries : Int) (x_At : Int) (x_Out : Int) (x_Regs : List Int) (x_Seen : List (List Int)) (x_Writes : List (List Int)) (x_Marks : List (List C)) (x_Busy : Bool) (x_Probe_Cell : Int) (x_Probe_Phase : Int) (x_Probe_Ver : Int) (x_Probe_Val : Int) (h_Regs : x_Regs.length ≤ maxLen) (h_Seen : x_Seen.length ≤ maxLen) (h_Writes : x_Writes.length ≤ maxLen) (h_Marks : FitArr cx (.rows 405 x_Marks)) (left : Int) (l0 : 0 ≤ left) (l1 : left ≤ 1048576) : ∃ v, v ≤ left ∧ (0 ≤ v → x_Regs.length ≤ 1048576 ∧ x_Seen.length ≤ 1048576 ∧ x_Writes.length ≤ 1048576 ∧ bKidMarkS x_Marks) ∧ ∀ k, laws_szKidRun std x_Phase x_Pc x_Since x_Tries x_At x_Out x_Regs x_Seen x_Writes x_Marks x_Busy x_Probe_Cell x_Probe_Phase x_Probe_Ver x_Probe_Val left k = k v := by
  obtain ⟨v0, a0, b0, k0⟩ := szIntS_v x_Regs h_Regs left l0 l1
  by_cases c0 : v0 < 0
  · exact ⟨-1, by omega, fun h => by omega, fun k => by simp only [laws_szKidRun, laws_szKidRun_f, k0, lt0_t c0, bt]⟩
  obtain ⟨v1, a1, b1, k1⟩ := szEntryS_v x_Seen h_Seen v0 (by omega) (by omega)
  by_cases c1 : v1 < 0
  · exact ⟨-1, by omega, fun h => by omega, fun k => by simp only [laws_szKidRun, laws_szKidRun_f, k0, k1, lt0_t c1, bt, lt0_f c0, bf]⟩
  obtain ⟨v2, a2, b2, k2⟩ := szRowS_v x_Writes h_Writes v1 (by omega) (by omega)
  by_cases c2 : v2 < 0
  · exact ⟨-1, by omega, fun h => by omega, fun k => by simp only [laws_szKidRun, laws_szKidRun_f, k0, k1, k2, lt0_t c2, bt, lt0_f c0, lt0_f c1, bf]⟩
  obtain ⟨v3, a3, b3, k3⟩ := szKidMarkS_v x_Marks h_Marks v2 (by omega) (by omega)
  by_cases c3 : v3 < 0
  · exact ⟨-1, by omega, fun h => by omega, fun k => by simp only [laws_szKidRun, laws_szKidRun_f, k0, k1, k2, k3, lt0_t c3, bt, lt0_f c0, lt0_f c1, lt0_f c2, bf]⟩
  exact ⟨v3, by omega, fun _ => ⟨b0 (by omega), b1 (by omega), b2 (by omega), b3 (by omega)⟩, fun k => by simp only [laws_szKidRun, laws_szKidRun_f, k0, k1, k2, k3, lt0_f c0, lt0_f c1, lt0_f c2, lt0_f c3, bf]⟩
theorem toKidRun_v (x_Phase : Int) (x_Pc : Int) (x_Since : Int) (x_Tries : Int) (x_At : Int) (x_Out : Int) (x_Regs : List Int) (x_Seen : List (List Int)) (x_Writes : List (List Int)) (x_Marks : List (List C)) (x_Busy : Bool) (x_Probe_Cell : Int) (x_Probe_Phase : Int) (x_Probe_Ver : Int) (x_Probe_Val : Int) (h_Regs : x_Regs.length ≤ 1048576) (h_Seen : x_Seen.length ≤ 1048576) (w_Seen : ∀ r ∈ x_Seen, r.length = 3) (h_Writes : x_Writes.length ≤ 1048576) (w_Writes : ∀ r ∈ x_Writes, r.length = 2) (h_Marks : bKidMarkS x_Marks) (k : (Int) → (Int) → (Int) → (Int) → (Int) → (Int) → (List Int) → (List (List Int)) → (List (List Int)) → (List (List C)) → (Bool) → (Int) → (Int) → (Int) → (Int) → R) : laws_toKidRun std x_Phase x_Pc x_Since x_Tries x_At x_Out x_Regs x_Seen x_Writes x_Marks x_Busy x_Probe_Cell x_Probe_Phase x_Probe_Ver x_Probe_Val k = k x_Phase x_Pc x_Since x_Tries x_At x_Out x_Regs x_Seen x_Writes (nKidMarkS x_Marks) x_Busy x_Probe_Cell x_Probe_Phase x_Probe_Ver x_Probe_Val := by
  simp only [laws_toKidRun, laws_toKidRun_f, toIntS_v x_Regs h_Regs, toEntryS_v x_Seen h_Seen w_Seen, toRowS_v x_Writes h_Writes w_Writes, toKidMarkS_v x_Marks h_Marks, toProbe_v x_Probe_Cell x_Probe_Phase x_Probe_Ver x_Probe_Val ]
theorem eqKidRun_r (x_Phase : Int) (x_Pc : Int) (x_Since : Int) (x_Tries : Int) (x_At : Int) (x_Out : Int) (x_Regs : List Int) (x_Seen : List (List Int)) (x_Writes : List (List Int)) (x_Marks : List (List C)) (x_Busy : Bool) (x_Probe_Cell : Int) (x_Probe_Phase : Int) (x_Probe_Ver : Int) (x_Probe_Val : Int) (h_Regs : x_Regs.length ≤ 1048576) (h_Seen : x_Seen.length ≤ 1048576) (h_Writes : x_Writes.length ≤ 1048576) (h_Marks : bKidMarkS x_Marks) (k : Bool → R) : laws_eqKidRun std x_Phase x_Pc x_Since x_Tries x_At x_Out x_Regs x_Seen x_Writes x_Marks x_Busy x_Probe_Cell x_Probe_Phase x_Probe_Ver x_Probe_Val x_Phase x_Pc x_Since x_Tries x_At x_Out x_Regs x_Seen x_Writes x_Marks x_Busy x_Probe_Cell x_Probe_Phase x_Probe_Ver x_Probe_Val k = k true := by
  have es : ∀ x : Int, std.not (std.eq x x) = false := fun x => by simp
  have eb : ∀ x : Bool, std.not (std.beq x x) = false := fun x => by simp
  simp only [laws_eqKidRun, laws_eqKidRun_f, es, eb, bt, bf, not_true', eqIntS_r x_Regs h_Regs, eqEntryS_r x_Seen h_Seen, eqRowS_r x_Writes h_Writes, eqKidMarkS_r x_Marks h_Marks, eqProbe_r x_Probe_Cell x_Probe_Phase x_Probe_Ver x_Probe_Val ]
def nKidRun (a : List (List C)) (i : Nat) : List C := [.i (std.rint a (i : Int) 0), .i (std.rint a (i : Int) 1), .i (std.rint a (i : Int) 2), .i (std.rint a (i : Int) 3), .i (std.rint a (i : Int) 4), .i (std.rint a (i : Int) 5), .s (std.ofi (std.rsi a (i : Int) 6)), .s (std.ofv (std.rsv 3 a (i : Int) 7)), .s (std.ofv (std.rsv 2 a (i : Int) 8)), .s (nKidMarkS (std.rsr a (i : Int) 9)), .b (std.rbool a (i : Int) 10), .i (std.rint a (i : Int) 11), .i (std.rint a (i : Int) 12), .i (std.rint a (i : Int) 13), .i (std.rint a (i : Int) 14)]
def nKidRunS (a : List (List C)) : List (List C) := (List.range a.length).map (nKidRun a)
def bKidRun (a : List (List C)) (i : Nat) : Prop := (std.rsi a (i : Int) 6).length ≤ 1048576 ∧ (std.rsv 3 a (i : Int) 7).length ≤ 1048576 ∧ (std.rsv 2 a (i : Int) 8).length ≤ 1048576 ∧ bKidMarkS (std.rsr a (i : Int) 9)
def bKidRunS (a : List (List C)) : Prop := a.length ≤ 1048576 ∧ ∀ i, i < a.length → bKidRun a i
theorem szKidRunS_v (a : List (List C)) (h : FitArr cx (.rows 295 a)) (left : Int) (h0 : 0 ≤ left) (h1 : left ≤ 1048576) : ∃ v, v ≤ left ∧ (0 ≤ v → bKidRunS a) ∧ ∀ k, laws_szKidRunS std a left k = k v := by
  have hm : maxLen = 9223372036854775807 := by decide
  have hl := fit_len h
  have e : std.sub .i64 left (a.length : Int) = left - a.length := by rw [std_sub]; exact i64_wrap (by omega) (by omega)
  unfold laws_szKidRunS laws_szKidRunS_f
  simp only [std_rlen, e, std_lt]
  generalize hN : std.fuel = N
  have hN : 4294967296 = N := hN
  by_cases hc : left - (a.length : Int) < 0
  · exact ⟨-1, by omega, fun h => by omega, fun k => by simp only [decide_eq_true hc, bt]⟩
  · have hs : ∀ i left, i < a.length → 0 ≤ left → left ≤ 1048576 → ∃ v, v ≤ left ∧ (0 ≤ v → bKidRun a i) ∧ ∀ k n, laws_szKidRunS_l0 std (laws_szKidRun std) (n + 1) a left (i : Int) k k = bif std.lt v 0 then k (-1) else laws_szKidRunS_l0 std (laws_szKidRun std) n a v ((i + 1 : Nat) : Int) k k := fun i left hi l0 l1 => by
      obtain ⟨v, v1, v2, v3⟩ := szKidRun_v (std.rint a (i : Int) 0) (std.rint a (i : Int) 1) (std.rint a (i : Int) 2) (std.rint a (i : Int) 3) (std.rint a (i : Int) 4) (std.rint a (i : Int) 5) (std.rsi a (i : Int) 6) (std.rsv 3 a (i : Int) 7) (std.rsv 2 a (i : Int) 8) (std.rsr a (i : Int) 9) (std.rbool a (i : Int) 10) (std.rint a (i : Int) 11) (std.rint a (i : Int) 12) (std.rint a (i : Int) 13) (std.rint a (i : Int) 14) (fit_rsi h rfl hi (j := 6) (by decide) rfl rfl rfl).1 (fit_rsv h rfl hi (j := 7) (by decide) rfl rfl rfl).1 (fit_rsv h rfl hi (j := 8) (by decide) rfl rfl rfl).1 (fit_rsr h rfl hi (j := 9) (by decide) rfl rfl rfl) left l0 l1
      exact ⟨v, v1, v2, fun k n => by simp only [laws_szKidRunS_l0, std_rlen, lt_nat_t hi, inb_nat_t hi, bt, v3, add1 (i := i) (by omega)]⟩
    have he : ∀ (k : Int → R) n left, laws_szKidRunS_l0 std (laws_szKidRun std) (n + 1) a left (a.length : Int) k k = k left := fun k n left => by simp only [laws_szKidRunS_l0, std_rlen, lt_nat_f (Nat.le_refl _), bf]
    obtain ⟨v, v1, v2, v3⟩ := loop_left (F := fun k n i left => laws_szKidRunS_l0 std (laws_szKidRun std) n a left i k k) (P := bKidRun a) (len := a.length) (N := N) (by omega) hs he (left - a.length) (by omega) (by omega)
    exact ⟨v, by omega, fun h => ⟨by omega, v2 h⟩, fun k => by simp only [decide_eq_false hc, bf]; exact v3 k⟩
theorem toKidRunS_v (a : List (List C)) (h : bKidRunS a) (k : List (List C) → R) : laws_toKidRunS std a k = k (nKidRunS a) := by
  have hb := h.1
  unfold laws_toKidRunS laws_toKidRunS_f
  generalize hN : std.fuel = N
  have hN : 4294967296 = N := hN
  have e1 : std.mkOk (a.length : Int) = true := by rw [std_mkOk]; exact decide_eq_true (by omega)
  have e2 : std.le (a.length : Int) (a.length : Int) = true := by rw [std_le]; exact decide_eq_true (Int.le_refl _)
  simp only [std_rlen, e1, e2, bt, std_rzero, Int.toNat_natCast]
  refine loop_fill (nKidRun a) _ (len := a.length) (F := fun n i o => laws_toKidRunS_l0 std (laws_toKidRun std) n a i o (fun o => k o)) (kx := k) (N := N) (by omega) (fun n i o hi ho => ?_) (fun n o => ?_)
  · have hv := fun kk => toKidRun_v (std.rint a (i : Int) 0) (std.rint a (i : Int) 1) (std.rint a (i : Int) 2) (std.rint a (i : Int) 3) (std.rint a (i : Int) 4) (std.rint a (i : Int) 5) (std.rsi a (i : Int) 6) (std.rsv 3 a (i : Int) 7) (std.rsv 2 a (i : Int) 8) (std.rsr a (i : Int) 9) (std.rbool a (i : Int) 10) (std.rint a (i : Int) 11) (std.rint a (i : Int) 12) (std.rint a (i : Int) 13) (std.rint a (i : Int) 14) ((h.2 i hi).1) ((h.2 i hi).2.1) (rsv_wide _ _ _ _) ((h.2 i hi).2.2.1) (rsv_wide _ _ _ _) ((h.2 i hi).2.2.2) (k := kk)
    simp only [laws_toKidRunS_l0, std_rlen, lt_nat_t hi, inb_nat_t hi, bt, ho, hv, std_rput, Int.toNat_natCast, add1 (i := i) (by omega)]
    try rfl
  · simp only [laws_toKidRunS_l0, std_rlen, lt_nat_f (Nat.le_refl _), bf]
theorem rdKidRun_6 (a : List (List C)) (i : Nat) (hi : i < a.length) : (std.rsi (nKidRunS a) (i : Int) 6) = (std.rsi a (i : Int) 6) := by
  show ((asRows (cOf (nKidRunS a) (i : Int).toNat 6)).map fun r => asInt (cAt r 0)) = _
  rw [Int.toNat_natCast, nKidRunS, cOf_fill _ hi]
  exact rsi_cell _
theorem rdKidRun_7 (a : List (List C)) (i : Nat) (hi : i < a.length) : (std.rsv 3 (nKidRunS a) (i : Int) 7) = (std.rsv 3 a (i : Int) 7) := by
  show ((asRows (cOf (nKidRunS a) (i : Int).toNat 7)).map fun r => (List.range 3).map fun q => asInt (cAt r q)) = _
  rw [Int.toNat_natCast, nKidRunS, cOf_fill _ hi]
  exact rsv_cell (rsv_wide _ _ _ _)
theorem rdKidRun_8 (a : List (List C)) (i : Nat) (hi : i < a.length) : (std.rsv 2 (nKidRunS a) (i : Int) 8) = (std.rsv 2 a (i : Int) 8) := by
  show ((asRows (cOf (nKidRunS a) (i : Int).toNat 8)).map fun r => (List.range 2).map fun q => asInt (cAt r q)) = _
  rw [Int.toNat_natCast, nKidRunS, cOf_fill _ hi]
  exact rsv_cell (rsv_wide _ _ _ _)
theorem rdKidRun_9 (a : List (List C)) (i : Nat) (hi : i < a.length) : (std.rsr (nKidRunS a) (i : Int) 9) = nKidMarkS (std.rsr a (i : Int) 9) := by
  show asRows (cOf (nKidRunS a) (i : Int).toNat 9) = _
  rw [Int.toNat_natCast, nKidRunS, cOf_fill _ hi]
  exact rfl
theorem lenKidRunS (a : List (List C)) : (nKidRunS a).length = a.length := by simp [nKidRunS]
theorem bKidRunS_n (a : List (List C)) (h : bKidRunS a) : bKidRunS (nKidRunS a) := ⟨by rw [lenKidRunS]; exact h.1, fun i hi => by
  rw [lenKidRunS] at hi
  exact ⟨(by rw [rdKidRun_6 a i hi]; exact (h.2 i hi).1), (by rw [rdKidRun_7 a i hi]; exact (h.2 i hi).2.1), (by rw [rdKidRun_8 a i hi]; exact (h.2 i hi).2.2.1), (by rw [rdKidRun_9 a i hi]; exact bKidMarkS_n _ (h.2 i hi).2.2.2)⟩⟩
theorem eqKidRunS_r (a : List (List C)) (h : bKidRunS a) (k : Bool → R) : laws_eqKidRunS std a a k = k true := by
  have hb := h.1
  unfold laws_eqKidRunS laws_eqKidRunS_f
  generalize hN : std.fuel = N
  have hN : 4294967296 = N := hN
  have es : ∀ x : Int, std.not (std.eq x x) = false := fun x => by simp
  have lp : laws_eqKidRunS_l0 std (laws_eqKidRun std) N a a 0 (fun t => k t) (fun _ => k true) = k true := by
    refine loop_true (F := fun n i => laws_eqKidRunS_l0 std (laws_eqKidRun std) n a a i (fun t => k t) (fun _ => k true)) (len := a.length) (by omega) (fun n i hi => ?_) (fun n => ?_)
    · have hv := fun kk => eqKidRun_r (std.rint a (i : Int) 0) (std.rint a (i : Int) 1) (std.rint a (i : Int) 2) (std.rint a (i : Int) 3) (std.rint a (i : Int) 4) (std.rint a (i : Int) 5) (std.rsi a (i : Int) 6) (std.rsv 3 a (i : Int) 7) (std.rsv 2 a (i : Int) 8) (std.rsr a (i : Int) 9) (std.rbool a (i : Int) 10) (std.rint a (i : Int) 11) (std.rint a (i : Int) 12) (std.rint a (i : Int) 13) (std.rint a (i : Int) 14) ((h.2 i hi).1) ((h.2 i hi).2.1) ((h.2 i hi).2.2.1) ((h.2 i hi).2.2.2) (k := kk)
      simp only [laws_eqKidRunS_l0, std_rlen, lt_nat_t hi, inb_nat_t hi, bt, bf, hv, not_true', add1 (i := i) (by omega)]
    · simp only [laws_eqKidRunS_l0, std_rlen, lt_nat_f (Nat.le_refl _), bf]
  rw [es, bf, lp]
theorem szFamily_v (x_Rv : Int) (x_Clock : Int) (x_Owner : Int) (x_Lost : Bool) (x_Regs : List Int) (x_Start : List (List Int)) (x_Buf : List (List Int)) (x_Order : List Int) (x_Reads : List (List Int)) (x_Kids : List (List C)) (h_Regs : x_Regs.length ≤ maxLen) (h_Start : x_Start.length ≤ maxLen) (h_Buf : x_Buf.length ≤ maxLen) (h_Order : x_Order.length ≤ maxLen) (h_Reads : x_Reads.length ≤ maxLen) (h_Kids : FitArr cx (.rows 295 x_Kids)) (left : Int) (l0 : 0 ≤ left) (l1 : left ≤ 1048576) : ∃ v, v ≤ left ∧ (0 ≤ v → x_Regs.length ≤ 1048576 ∧ x_Start.length ≤ 1048576 ∧ x_Buf.length ≤ 1048576 ∧ x_Order.length ≤ 1048576 ∧ x_Reads.length ≤ 1048576 ∧ bKidRunS x_Kids) ∧ ∀ k, laws_szFamily std x_Rv x_Clock x_Owner x_Lost x_Regs x_Start x_Buf x_Order x_Reads x_Kids left k = k v := by
  obtain ⟨v0, a0, b0, k0⟩ := szIntS_v x_Regs h_Regs left l0 l1
  by_cases c0 : v0 < 0
  · exact ⟨-1, by omega, fun h => by omega, fun k => by simp only [laws_szFamily, laws_szFamily_f, k0, lt0_t c0, bt]⟩
  obtain ⟨v1, a1, b1, k1⟩ := szRowS_v x_Start h_Start v0 (by omega) (by omega)
  by_cases c1 : v1 < 0
  · exact ⟨-1, by omega, fun h => by omega, fun k => by simp only [laws_szFamily, laws_szFamily_f, k0, k1, lt0_t c1, bt, lt0_f c0, bf]⟩
  obtain ⟨v2, a2, b2, k2⟩ := szEntryS_v x_Buf h_Buf v1 (by omega) (by omega)
  by_cases c2 : v2 < 0
  · exact ⟨-1, by omega, fun h => by omega, fun k => by simp only [laws_szFamily, laws_szFamily_f, k0, k1, k2, lt0_t c2, bt, lt0_f c0, lt0_f c1, bf]⟩
  obtain ⟨v3, a3, b3, k3⟩ := szIntS_v x_Order h_Order v2 (by omega) (by omega)
  by_cases c3 : v3 < 0
  · exact ⟨-1, by omega, fun h => by omega, fun k => by simp only [laws_szFamily, laws_szFamily_f, k0, k1, k2, k3, lt0_t c3, bt, lt0_f c0, lt0_f c1, lt0_f c2, bf]⟩
  obtain ⟨v4, a4, b4, k4⟩ := szRowS_v x_Reads h_Reads v3 (by omega) (by omega)
  by_cases c4 : v4 < 0
  · exact ⟨-1, by omega, fun h => by omega, fun k => by simp only [laws_szFamily, laws_szFamily_f, k0, k1, k2, k3, k4, lt0_t c4, bt, lt0_f c0, lt0_f c1, lt0_f c2, lt0_f c3, bf]⟩
  obtain ⟨v5, a5, b5, k5⟩ := szKidRunS_v x_Kids h_Kids v4 (by omega) (by omega)
  by_cases c5 : v5 < 0
  · exact ⟨-1, by omega, fun h => by omega, fun k => by simp only [laws_szFamily, laws_szFamily_f, k0, k1, k2, k3, k4, k5, lt0_t c5, bt, lt0_f c0, lt0_f c1, lt0_f c2, lt0_f c3, lt0_f c4, bf]⟩
  exact ⟨v5, by omega, fun _ => ⟨b0 (by omega), b1 (by omega), b2 (by omega), b3 (by omega), b4 (by omega), b5 (by omega)⟩, fun k => by simp only [laws_szFamily, laws_szFamily_f, k0, k1, k2, k3, k4, k5, lt0_f c0, lt0_f c1, lt0_f c2, lt0_f c3, lt0_f c4, lt0_f c5, bf]⟩
theorem toFamily_v (x_Rv : Int) (x_Clock : Int) (x_Owner : Int) (x_Lost : Bool) (x_Regs : List Int) (x_Start : List (List Int)) (x_Buf : List (List Int)) (x_Order : List Int) (x_Reads : List (List Int)) (x_Kids : List (List C)) (h_Regs : x_Regs.length ≤ 1048576) (h_Start : x_Start.length ≤ 1048576) (w_Start : ∀ r ∈ x_Start, r.length = 2) (h_Buf : x_Buf.length ≤ 1048576) (w_Buf : ∀ r ∈ x_Buf, r.length = 3) (h_Order : x_Order.length ≤ 1048576) (h_Reads : x_Reads.length ≤ 1048576) (w_Reads : ∀ r ∈ x_Reads, r.length = 2) (h_Kids : bKidRunS x_Kids) (k : (Int) → (Int) → (Int) → (Bool) → (List Int) → (List (List Int)) → (List (List Int)) → (List Int) → (List (List Int)) → (List (List C)) → R) : laws_toFamily std x_Rv x_Clock x_Owner x_Lost x_Regs x_Start x_Buf x_Order x_Reads x_Kids k = k x_Rv x_Clock x_Owner x_Lost x_Regs x_Start x_Buf x_Order x_Reads (nKidRunS x_Kids) := by
  simp only [laws_toFamily, laws_toFamily_f, toIntS_v x_Regs h_Regs, toRowS_v x_Start h_Start w_Start, toEntryS_v x_Buf h_Buf w_Buf, toIntS_v x_Order h_Order, toRowS_v x_Reads h_Reads w_Reads, toKidRunS_v x_Kids h_Kids]
theorem eqFamily_r (x_Rv : Int) (x_Clock : Int) (x_Owner : Int) (x_Lost : Bool) (x_Regs : List Int) (x_Start : List (List Int)) (x_Buf : List (List Int)) (x_Order : List Int) (x_Reads : List (List Int)) (x_Kids : List (List C)) (h_Regs : x_Regs.length ≤ 1048576) (h_Start : x_Start.length ≤ 1048576) (h_Buf : x_Buf.length ≤ 1048576) (h_Order : x_Order.length ≤ 1048576) (h_Reads : x_Reads.length ≤ 1048576) (h_Kids : bKidRunS x_Kids) (k : Bool → R) : laws_eqFamily std x_Rv x_Clock x_Owner x_Lost x_Regs x_Start x_Buf x_Order x_Reads x_Kids x_Rv x_Clock x_Owner x_Lost x_Regs x_Start x_Buf x_Order x_Reads x_Kids k = k true := by
  have es : ∀ x : Int, std.not (std.eq x x) = false := fun x => by simp
  have eb : ∀ x : Bool, std.not (std.beq x x) = false := fun x => by simp
  simp only [laws_eqFamily, laws_eqFamily_f, es, eb, bt, bf, not_true', eqIntS_r x_Regs h_Regs, eqRowS_r x_Start h_Start, eqEntryS_r x_Buf h_Buf, eqIntS_r x_Order h_Order, eqRowS_r x_Reads h_Reads, eqKidRunS_r x_Kids h_Kids]
end X
