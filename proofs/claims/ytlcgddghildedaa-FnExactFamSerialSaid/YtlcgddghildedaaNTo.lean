/- Models of the functions, or plain laws about them; each theorem states its own conditions. -/
import Derived.Test.YtlcgddghildedaaMdl2
import Derived.Test.YtlcgddghildedaaQN1
import Derived.Test.YtlcgddghildedaaPlH
set_option linter.unusedVariables false
set_option linter.unusedSimpArgs false
open Go.Proofs
namespace X
open PM Go
theorem szIntS_v (a : List Int) (h : a.length ≤ maxLen) (left : Int) (h0 : 0 ≤ left) (h1 : left ≤ 1048576) : ∃ v, v ≤ left ∧ (0 ≤ v → a.length ≤ 1048576) ∧ ∀ k, laws_szIntS std a left k = k v := by
  have hm : maxLen = 9223372036854775807 := by decide
  have e : std.sub .i64 left (a.length : Int) = left - a.length := by rw [std_sub]; exact i64_wrap (by omega) (by omega)
  unfold laws_szIntS laws_szIntS_f
  simp only [std_ilen, e, std_lt]
  by_cases hc : left - (a.length : Int) < 0
  · exact ⟨-1, by omega, fun h => by omega, fun k => by simp only [decide_eq_true hc, bt]⟩
  · exact ⟨left - a.length, by omega, fun _ => by omega, fun k => by simp only [decide_eq_false hc, bf]⟩
theorem toIntS_v (a : List Int) (hb : a.length ≤ 1048576) (k : List Int → R) : laws_toIntS std a k = k a := by
  unfold laws_toIntS laws_toIntS_f
  generalize hN : std.fuel = N
  have hN : 4294967296 = N := hN
  have e1 : std.mkOk (a.length : Int) = true := by rw [std_mkOk]; exact decide_eq_true (by omega)
  have e2 : std.le (a.length : Int) (a.length : Int) = true := by rw [std_le]; exact decide_eq_true (Int.le_refl _)
  simp only [std_ilen, e1, e2, bt, std_izero, Int.toNat_natCast]
  have h := loop_fill (fun i => a.getD i 0) (0 : Int) (len := a.length) (F := fun n i o => laws_toIntS_l0 std n a i o (fun o => k o)) (kx := k) (N := N) (by omega) (fun n i o hi ho => ?_) (fun n o => ?_)
  · rw [h, range_getD]
  · simp only [laws_toIntS_l0, std_ilen, lt_nat_t hi, inb_nat_t hi, bt, ho, std_iget, std_iset, Int.toNat_natCast, add1 (i := i) (by omega)]
  · simp only [laws_toIntS_l0, std_ilen, lt_nat_f (Nat.le_refl _), bf]
theorem eqIntS_r (a : List Int) (hb : a.length ≤ 1048576) (k : Bool → R) : laws_eqIntS std a a k = k true := by
  unfold laws_eqIntS laws_eqIntS_f
  generalize hN : std.fuel = N
  have hN : 4294967296 = N := hN
  have es : ∀ x : Int, std.not (std.eq x x) = false := fun x => by simp
  have lp : laws_eqIntS_l0 std N a a 0 (fun t => k t) (fun _ => k true) = k true := by
    refine loop_true (F := fun n i => laws_eqIntS_l0 std n a a i (fun t => k t) (fun _ => k true)) (len := a.length) (by omega) (fun n i hi => ?_) (fun n => ?_)
    · simp only [laws_eqIntS_l0, std_ilen, lt_nat_t hi, inb_nat_t hi, bt, bf, std_iget, es, add1 (i := i) (by omega)]
    · simp only [laws_eqIntS_l0, std_ilen, lt_nat_f (Nat.le_refl _), bf]
  rw [es, bf, lp]
theorem szRowS_v (a : List (List Int)) (h : a.length ≤ maxLen) (left : Int) (h0 : 0 ≤ left) (h1 : left ≤ 1048576) : ∃ v, v ≤ left ∧ (0 ≤ v → a.length ≤ 1048576) ∧ ∀ k, laws_szRowS std a left k = k v := by
  have hm : maxLen = 9223372036854775807 := by decide
  have e : std.sub .i64 left (a.length : Int) = left - a.length := by rw [std_sub]; exact i64_wrap (by omega) (by omega)
  unfold laws_szRowS laws_szRowS_f
  simp only [std_vlen, e, std_lt]
  by_cases hc : left - (a.length : Int) < 0
  · exact ⟨-1, by omega, fun h => by omega, fun k => by simp only [decide_eq_true hc, bt]⟩
  · exact ⟨left - a.length, by omega, fun _ => by omega, fun k => by simp only [decide_eq_false hc, bf]⟩
theorem toRowS_v (a : List (List Int)) (hb : a.length ≤ 1048576) (hw : ∀ r ∈ a, r.length = 2) (k : List (List Int) → R) : laws_toRowS std a k = k a := by
  unfold laws_toRowS laws_toRowS_f
  generalize hN : std.fuel = N
  have hN : 4294967296 = N := hN
  have e1 : std.mkOk (a.length : Int) = true := by rw [std_mkOk]; exact decide_eq_true (by omega)
  have e2 : std.le (a.length : Int) (a.length : Int) = true := by rw [std_le]; exact decide_eq_true (Int.le_refl _)
  simp only [std_vlen, e1, e2, bt, std_vzero, Int.toNat_natCast]
  have h := loop_fill (fun i => a.getD i []) ((List.replicate 2 0) : List Int) (len := a.length) (F := fun n i o => laws_toRowS_l0 std (laws_toRow std) n a i o (fun o => k o)) (kx := k) (N := N) (by omega) (fun n i o hi ho => ?_) (fun n o => ?_)
  · rw [h, range_getD]
  · simp only [laws_toRowS_l0, std_vlen, lt_nat_t hi, inb_nat_t hi, bt, ho, laws_toRow, laws_toRow_f, std_vget, std_vput, Int.toNat_natCast, row2 (hw _ (getD_mem hi)), add1 (i := i) (by omega)]
  · simp only [laws_toRowS_l0, std_vlen, lt_nat_f (Nat.le_refl _), bf]
theorem eqRowS_r (a : List (List Int)) (hb : a.length ≤ 1048576) (k : Bool → R) : laws_eqRowS std a a k = k true := by
  unfold laws_eqRowS laws_eqRowS_f
  generalize hN : std.fuel = N
  have hN : 4294967296 = N := hN
  have es : ∀ x : Int, std.not (std.eq x x) = false := fun x => by simp
  have lp : laws_eqRowS_l0 std (laws_eqRow std) N a a 0 (fun t => k t) (fun _ => k true) = k true := by
    refine loop_true (F := fun n i => laws_eqRowS_l0 std (laws_eqRow std) n a a i (fun t => k t) (fun _ => k true)) (len := a.length) (by omega) (fun n i hi => ?_) (fun n => ?_)
    · simp only [laws_eqRowS_l0, std_vlen, lt_nat_t hi, inb_nat_t hi, bt, bf, laws_eqRow, laws_eqRow_f, es, not_true', add1 (i := i) (by omega)]
    · simp only [laws_eqRowS_l0, std_vlen, lt_nat_f (Nat.le_refl _), bf]
  rw [es, bf, lp]
theorem szOpS_v (a : List (List Int)) (h : a.length ≤ maxLen) (left : Int) (h0 : 0 ≤ left) (h1 : left ≤ 1048576) : ∃ v, v ≤ left ∧ (0 ≤ v → a.length ≤ 1048576) ∧ ∀ k, laws_szOpS std a left k = k v := by
  have hm : maxLen = 9223372036854775807 := by decide
  have e : std.sub .i64 left (a.length : Int) = left - a.length := by rw [std_sub]; exact i64_wrap (by omega) (by omega)
  unfold laws_szOpS laws_szOpS_f
  simp only [std_vlen, e, std_lt]
  by_cases hc : left - (a.length : Int) < 0
  · exact ⟨-1, by omega, fun h => by omega, fun k => by simp only [decide_eq_true hc, bt]⟩
  · exact ⟨left - a.length, by omega, fun _ => by omega, fun k => by simp only [decide_eq_false hc, bf]⟩
theorem toOpS_v (a : List (List Int)) (hb : a.length ≤ 1048576) (hw : ∀ r ∈ a, r.length = 4) (k : List (List Int) → R) : laws_toOpS std a k = k a := by
  unfold laws_toOpS laws_toOpS_f
  generalize hN : std.fuel = N
  have hN : 4294967296 = N := hN
  have e1 : std.mkOk (a.length : Int) = true := by rw [std_mkOk]; exact decide_eq_true (by omega)
  have e2 : std.le (a.length : Int) (a.length : Int) = true := by rw [std_le]; exact decide_eq_true (Int.le_refl _)
  simp only [std_vlen, e1, e2, bt, std_vzero, Int.toNat_natCast]
  have h := loop_fill (fun i => a.getD i []) ((List.replicate 4 0) : List Int) (len := a.length) (F := fun n i o => laws_toOpS_l0 std (laws_toOp std) n a i o (fun o => k o)) (kx := k) (N := N) (by omega) (fun n i o hi ho => ?_) (fun n o => ?_)
  · rw [h, range_getD]
  · simp only [laws_toOpS_l0, std_vlen, lt_nat_t hi, inb_nat_t hi, bt, ho, laws_toOp, laws_toOp_f, std_vget, std_vput, Int.toNat_natCast, row4 (hw _ (getD_mem hi)), add1 (i := i) (by omega)]
  · simp only [laws_toOpS_l0, std_vlen, lt_nat_f (Nat.le_refl _), bf]
theorem eqOpS_r (a : List (List Int)) (hb : a.length ≤ 1048576) (k : Bool → R) : laws_eqOpS std a a k = k true := by
  unfold laws_eqOpS laws_eqOpS_f
  generalize hN : std.fuel = N
  have hN : 4294967296 = N := hN
  have es : ∀ x : Int, std.not (std.eq x x) = false := fun x => by simp
  have lp : laws_eqOpS_l0 std (laws_eqOp std) N a a 0 (fun t => k t) (fun _ => k true) = k true := by
    refine loop_true (F := fun n i => laws_eqOpS_l0 std (laws_eqOp std) n a a i (fun t => k t) (fun _ => k true)) (len := a.length) (by omega) (fun n i hi => ?_) (fun n => ?_)
    · simp only [laws_eqOpS_l0, std_vlen, lt_nat_t hi, inb_nat_t hi, bt, bf, laws_eqOp, laws_eqOp_f, es, not_true', add1 (i := i) (by omega)]
    · simp only [laws_eqOpS_l0, std_vlen, lt_nat_f (Nat.le_refl _), bf]
  rw [es, bf, lp]
theorem szKid_v (x_Code : List (List Int)) (h_Code : x_Code.length ≤ maxLen) (left : Int) (l0 : 0 ≤ left) (l1 : left ≤ 1048576) : ∃ v, v ≤ left ∧ (0 ≤ v → x_Code.length ≤ 1048576) ∧ ∀ k, laws_szKid std x_Code left k = k v := by
  obtain ⟨v0, a0, b0, k0⟩ := szOpS_v x_Code h_Code left l0 l1
  by_cases c0 : v0 < 0
  · exact ⟨-1, by omega, fun h => by omega, fun k => by simp only [laws_szKid, laws_szKid_f, k0, lt0_t c0, bt]⟩
  exact ⟨v0, by omega, fun _ => b0 (by omega), fun k => by simp only [laws_szKid, laws_szKid_f, k0, lt0_f c0, bf]⟩
theorem toKid_v (x_Code : List (List Int)) (h_Code : x_Code.length ≤ 1048576) (w_Code : ∀ r ∈ x_Code, r.length = 4) (k : (List (List Int)) → R) : laws_toKid std x_Code k = k x_Code := by
  simp only [laws_toKid, laws_toKid_f, toOpS_v x_Code h_Code w_Code]
theorem eqKid_r (x_Code : List (List Int)) (h_Code : x_Code.length ≤ 1048576) (k : Bool → R) : laws_eqKid std x_Code x_Code k = k true := by
  have es : ∀ x : Int, std.not (std.eq x x) = false := fun x => by simp
  have eb : ∀ x : Bool, std.not (std.beq x x) = false := fun x => by simp
  simp only [laws_eqKid, laws_eqKid_f, es, eb, bt, bf, not_true', eqOpS_r x_Code h_Code]
def nKid (a : List (List C)) (i : Nat) : List C := [.s (std.ofv (std.rsv 4 a (i : Int) 0))]
def nKidS (a : List (List C)) : List (List C) := (List.range a.length).map (nKid a)
def bKid (a : List (List C)) (i : Nat) : Prop := (std.rsv 4 a (i : Int) 0).length ≤ 1048576
def bKidS (a : List (List C)) : Prop := a.length ≤ 1048576 ∧ ∀ i, i < a.length → bKid a i
theorem szKidS_v (a : List (List C)) (h : FitArr cx (.rows 309 a)) (left : Int) (h0 : 0 ≤ left) (h1 : left ≤ 1048576) : ∃ v, v ≤ left ∧ (0 ≤ v → bKidS a) ∧ ∀ k, laws_szKidS std a left k = k v := by
  have hm : maxLen = 9223372036854775807 := by decide
  have hl := fit_len h
  have e : std.sub .i64 left (a.length : Int) = left - a.length := by rw [std_sub]; exact i64_wrap (by omega) (by omega)
  unfold laws_szKidS laws_szKidS_f
  simp only [std_rlen, e, std_lt]
  generalize hN : std.fuel = N
  have hN : 4294967296 = N := hN
  by_cases hc : left - (a.length : Int) < 0
  · exact ⟨-1, by omega, fun h => by omega, fun k => by simp only [decide_eq_true hc, bt]⟩
  · have hs : ∀ i left, i < a.length → 0 ≤ left → left ≤ 1048576 → ∃ v, v ≤ left ∧ (0 ≤ v → bKid a i) ∧ ∀ k n, laws_szKidS_l0 std (laws_szKid std) (n + 1) a left (i : Int) k k = bif std.lt v 0 then k (-1) else laws_szKidS_l0 std (laws_szKid std) n a v ((i + 1 : Nat) : Int) k k := fun i left hi l0 l1 => by
      obtain ⟨v, v1, v2, v3⟩ := szKid_v (std.rsv 4 a (i : Int) 0) (fit_rsv h rfl hi (j := 0) (by decide) rfl rfl rfl).1 left l0 l1
      exact ⟨v, v1, v2, fun k n => by simp only [laws_szKidS_l0, std_rlen, lt_nat_t hi, inb_nat_t hi, bt, v3, add1 (i := i) (by omega)]⟩
    have he : ∀ (k : Int → R) n left, laws_szKidS_l0 std (laws_szKid std) (n + 1) a left (a.length : Int) k k = k left := fun k n left => by simp only [laws_szKidS_l0, std_rlen, lt_nat_f (Nat.le_refl _), bf]
    obtain ⟨v, v1, v2, v3⟩ := loop_left (F := fun k n i left => laws_szKidS_l0 std (laws_szKid std) n a left i k k) (P := bKid a) (len := a.length) (N := N) (by omega) hs he (left - a.length) (by omega) (by omega)
    exact ⟨v, by omega, fun h => ⟨by omega, v2 h⟩, fun k => by simp only [decide_eq_false hc, bf]; exact v3 k⟩
theorem toKidS_v (a : List (List C)) (h : bKidS a) (k : List (List C) → R) : laws_toKidS std a k = k (nKidS a) := by
  have hb := h.1
  unfold laws_toKidS laws_toKidS_f
  generalize hN : std.fuel = N
  have hN : 4294967296 = N := hN
  have e1 : std.mkOk (a.length : Int) = true := by rw [std_mkOk]; exact decide_eq_true (by omega)
  have e2 : std.le (a.length : Int) (a.length : Int) = true := by rw [std_le]; exact decide_eq_true (Int.le_refl _)
  simp only [std_rlen, e1, e2, bt, std_rzero, Int.toNat_natCast]
  refine loop_fill (nKid a) _ (len := a.length) (F := fun n i o => laws_toKidS_l0 std (laws_toKid std) n a i o (fun o => k o)) (kx := k) (N := N) (by omega) (fun n i o hi ho => ?_) (fun n o => ?_)
  · have hv := fun kk => toKid_v (std.rsv 4 a (i : Int) 0) (h.2 i hi) (rsv_wide _ _ _ _) (k := kk)
    simp only [laws_toKidS_l0, std_rlen, lt_nat_t hi, inb_nat_t hi, bt, ho, hv, std_rput, Int.toNat_natCast, add1 (i := i) (by omega)]
    try rfl
  · simp only [laws_toKidS_l0, std_rlen, lt_nat_f (Nat.le_refl _), bf]
theorem rdKid_0 (a : List (List C)) (i : Nat) (hi : i < a.length) : (std.rsv 4 (nKidS a) (i : Int) 0) = (std.rsv 4 a (i : Int) 0) := by
  show ((asRows (cOf (nKidS a) (i : Int).toNat 0)).map fun r => (List.range 4).map fun q => asInt (cAt r q)) = _
  rw [Int.toNat_natCast, nKidS, cOf_fill _ hi]
  exact rsv_cell (rsv_wide _ _ _ _)
theorem lenKidS (a : List (List C)) : (nKidS a).length = a.length := by simp [nKidS]
theorem bKidS_n (a : List (List C)) (h : bKidS a) : bKidS (nKidS a) := ⟨by rw [lenKidS]; exact h.1, fun i hi => by
  rw [lenKidS] at hi
  exact (by unfold bKid; rw [rdKid_0 a i hi]; exact h.2 i hi)⟩
theorem eqKidS_r (a : List (List C)) (h : bKidS a) (k : Bool → R) : laws_eqKidS std a a k = k true := by
  have hb := h.1
  unfold laws_eqKidS laws_eqKidS_f
  generalize hN : std.fuel = N
  have hN : 4294967296 = N := hN
  have es : ∀ x : Int, std.not (std.eq x x) = false := fun x => by simp
  have lp : laws_eqKidS_l0 std (laws_eqKid std) N a a 0 (fun t => k t) (fun _ => k true) = k true := by
    refine loop_true (F := fun n i => laws_eqKidS_l0 std (laws_eqKid std) n a a i (fun t => k t) (fun _ => k true)) (len := a.length) (by omega) (fun n i hi => ?_) (fun n => ?_)
    · have hv := fun kk => eqKid_r (std.rsv 4 a (i : Int) 0) (h.2 i hi) (k := kk)
      simp only [laws_eqKidS_l0, std_rlen, lt_nat_t hi, inb_nat_t hi, bt, bf, hv, not_true', add1 (i := i) (by omega)]
    · simp only [laws_eqKidS_l0, std_rlen, lt_nat_f (Nat.le_refl _), bf]
  rw [es, bf, lp]
theorem szFamScript_v (x_Cells : List Int) (x_Regs : List Int) (x_Writes : List (List Int)) (x_Kids : List (List C)) (x_Acts : List Int) (h_Cells : x_Cells.length ≤ maxLen) (h_Regs : x_Regs.length ≤ maxLen) (h_Writes : x_Writes.length ≤ maxLen) (h_Kids : FitArr cx (.rows 309 x_Kids)) (h_Acts : x_Acts.length ≤ maxLen) (left : Int) (l0 : 0 ≤ left) (l1 : left ≤ 1048576) : ∃ v, v ≤ left ∧ (0 ≤ v → x_Cells.length ≤ 1048576 ∧ x_Regs.length ≤ 1048576 ∧ x_Writes.length ≤ 1048576 ∧ bKidS x_Kids ∧ x_Acts.length ≤ 1048576) ∧ ∀ k, laws_szFamScript std x_Cells x_Regs x_Writes x_Kids x_Acts left k = k v := by
  obtain ⟨v0, a0, b0, k0⟩ := szIntS_v x_Cells h_Cells left l0 l1
  by_cases c0 : v0 < 0
  · exact ⟨-1, by omega, fun h => by omega, fun k => by simp only [laws_szFamScript, laws_szFamScript_f, k0, lt0_t c0, bt]⟩
  obtain ⟨v1, a1, b1, k1⟩ := szIntS_v x_Regs h_Regs v0 (by omega) (by omega)
  by_cases c1 : v1 < 0
  · exact ⟨-1, by omega, fun h => by omega, fun k => by simp only [laws_szFamScript, laws_szFamScript_f, k0, k1, lt0_t c1, bt, lt0_f c0, bf]⟩
  obtain ⟨v2, a2, b2, k2⟩ := szRowS_v x_Writes h_Writes v1 (by omega) (by omega)
  by_cases c2 : v2 < 0
  · exact ⟨-1, by omega, fun h => by omega, fun k => by simp only [laws_szFamScript, laws_szFamScript_f, k0, k1, k2, lt0_t c2, bt, lt0_f c0, lt0_f c1, bf]⟩
  obtain ⟨v3, a3, b3, k3⟩ := szKidS_v x_Kids h_Kids v2 (by omega) (by omega)
  by_cases c3 : v3 < 0
  · exact ⟨-1, by omega, fun h => by omega, fun k => by simp only [laws_szFamScript, laws_szFamScript_f, k0, k1, k2, k3, lt0_t c3, bt, lt0_f c0, lt0_f c1, lt0_f c2, bf]⟩
  obtain ⟨v4, a4, b4, k4⟩ := szIntS_v x_Acts h_Acts v3 (by omega) (by omega)
  by_cases c4 : v4 < 0
  · exact ⟨-1, by omega, fun h => by omega, fun k => by simp only [laws_szFamScript, laws_szFamScript_f, k0, k1, k2, k3, k4, lt0_t c4, bt, lt0_f c0, lt0_f c1, lt0_f c2, lt0_f c3, bf]⟩
  exact ⟨v4, by omega, fun _ => ⟨b0 (by omega), b1 (by omega), b2 (by omega), b3 (by omega), b4 (by omega)⟩, fun k => by simp only [laws_szFamScript, laws_szFamScript_f, k0, k1, k2, k3, k4, lt0_f c0, lt0_f c1, lt0_f c2, lt0_f c3, lt0_f c4, bf]⟩
theorem toFamScript_v (x_Cells : List Int) (x_Regs : List Int) (x_Writes : List (List Int)) (x_Kids : List (List C)) (x_Acts : List Int) (h_Cells : x_Cells.length ≤ 1048576) (h_Regs : x_Regs.length ≤ 1048576) (h_Writes : x_Writes.length ≤ 1048576) (w_Writes : ∀ r ∈ x_Writes, r.length = 2) (h_Kids : bKidS x_Kids) (h_Acts : x_Acts.length ≤ 1048576) (k : (List Int) → (List Int) → (List (List Int)) → (List (List C)) → (List Int) → R) : laws_toFamScript std x_Cells x_Regs x_Writes x_Kids x_Acts k = k x_Cells x_Regs x_Writes (nKidS x_Kids) x_Acts := by
  simp only [laws_toFamScript, laws_toFamScript_f, toIntS_v x_Cells h_Cells, toIntS_v x_Regs h_Regs, toRowS_v x_Writes h_Writes w_Writes, toKidS_v x_Kids h_Kids, toIntS_v x_Acts h_Acts]
theorem eqFamScript_r (x_Cells : List Int) (x_Regs : List Int) (x_Writes : List (List Int)) (x_Kids : List (List C)) (x_Acts : List Int) (h_Cells : x_Cells.length ≤ 1048576) (h_Regs : x_Regs.length ≤ 1048576) (h_Writes : x_Writes.length ≤ 1048576) (h_Kids : bKidS x_Kids) (h_Acts : x_Acts.length ≤ 1048576) (k : Bool → R) : laws_eqFamScript std x_Cells x_Regs x_Writes x_Kids x_Acts x_Cells x_Regs x_Writes x_Kids x_Acts k = k true := by
  have es : ∀ x : Int, std.not (std.eq x x) = false := fun x => by simp
  have eb : ∀ x : Bool, std.not (std.beq x x) = false := fun x => by simp
  simp only [laws_eqFamScript, laws_eqFamScript_f, es, eb, bt, bf, not_true', eqIntS_r x_Cells h_Cells, eqIntS_r x_Regs h_Regs, eqRowS_r x_Writes h_Writes, eqKidS_r x_Kids h_Kids, eqIntS_r x_Acts h_Acts]
end X
