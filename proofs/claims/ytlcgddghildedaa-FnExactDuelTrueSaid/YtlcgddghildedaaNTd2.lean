/- Models of the functions, or plain laws about them; each theorem states its own conditions. -/
import Derived.Test.YtlcgddghildedaaMdl2
import Derived.Test.YtlcgddghildedaaQN1
import Derived.Test.YtlcgddghildedaaPlH
import Derived.Test.YtlcgddghildedaaNTi
import Derived.Test.YtlcgddghildedaaNTh
set_option linter.unusedVariables false
set_option linter.unusedSimpArgs false
open Go.Proofs
namespace X
open PM Go
theorem szWordS_v (a : List (List Int)) (h : a.length ≤ maxLen) (left : Int) (h0 : 0 ≤ left) (h1 : left ≤ 1048576) : ∃ v, v ≤ left ∧ (0 ≤ v → a.length ≤ 1048576) ∧ ∀ k, laws_szWordS std a left k = k v := by
  have hm : maxLen = 9223372036854775807 := by decide
  have e : std.sub .i64 left (a.length : Int) = left - a.length := by rw [std_sub]; exact i64_wrap (by omega) (by omega)
  unfold laws_szWordS laws_szWordS_f
  simp only [std_vlen, e, std_lt]
  by_cases hc : left - (a.length : Int) < 0
  · exact ⟨-1, by omega, fun h => by omega, fun k => by simp only [decide_eq_true hc, bt]⟩
  · exact ⟨left - a.length, by omega, fun _ => by omega, fun k => by simp only [decide_eq_false hc, bf]⟩
theorem toWordS_v (a : List (List Int)) (hb : a.length ≤ 1048576) (hw : ∀ r ∈ a, r.length = 3) (k : List (List Int) → R) : laws_toWordS std a k = k a := by
  unfold laws_toWordS laws_toWordS_f
  generalize hN : std.fuel = N
  have hN : 4294967296 = N := hN
  have e1 : std.mkOk (a.length : Int) = true := by rw [std_mkOk]; exact decide_eq_true (by omega)
  have e2 : std.le (a.length : Int) (a.length : Int) = true := by rw [std_le]; exact decide_eq_true (Int.le_refl _)
  simp only [std_vlen, e1, e2, bt, std_vzero, Int.toNat_natCast]
  have h := loop_fill (fun i => a.getD i []) ((List.replicate 3 0) : List Int) (len := a.length) (F := fun n i o => laws_toWordS_l0 std (laws_toWord std) n a i o (fun o => k o)) (kx := k) (N := N) (by omega) (fun n i o hi ho => ?_) (fun n o => ?_)
  · rw [h, range_getD]
  · simp only [laws_toWordS_l0, std_vlen, lt_nat_t hi, inb_nat_t hi, bt, ho, laws_toWord, laws_toWord_f, std_vget, std_vput, Int.toNat_natCast, row3 (hw _ (getD_mem hi)), add1 (i := i) (by omega)]
  · simp only [laws_toWordS_l0, std_vlen, lt_nat_f (Nat.le_refl _), bf]
theorem eqWordS_r (a : List (List Int)) (hb : a.length ≤ 1048576) (k : Bool → R) : laws_eqWordS std a a k = k true := by
  unfold laws_eqWordS laws_eqWordS_f
  generalize hN : std.fuel = N
  have hN : 4294967296 = N := hN
  have es : ∀ x : Int, std.not (std.eq x x) = false := fun x => by simp
  have lp : laws_eqWordS_l0 std (laws_eqWord std) N a a 0 (fun t => k t) (fun _ => k true) = k true := by
    refine loop_true (F := fun n i => laws_eqWordS_l0 std (laws_eqWord std) n a a i (fun t => k t) (fun _ => k true)) (len := a.length) (by omega) (fun n i hi => ?_) (fun n => ?_)
    · simp only [laws_eqWordS_l0, std_vlen, lt_nat_t hi, inb_nat_t hi, bt, bf, laws_eqWord, laws_eqWord_f, es, not_true', add1 (i := i) (by omega)]
    · simp only [laws_eqWordS_l0, std_vlen, lt_nat_f (Nat.le_refl _), bf]
  rw [es, bf, lp]
theorem szMem_v (x_Clock : Int) (x_Cells : List (List Int)) (h_Cells : x_Cells.length ≤ maxLen) (left : Int) (l0 : 0 ≤ left) (l1 : left ≤ 1048576) : ∃ v, v ≤ left ∧ (0 ≤ v → x_Cells.length ≤ 1048576) ∧ ∀ k, laws_szMem std x_Clock x_Cells left k = k v := by
  obtain ⟨v0, a0, b0, k0⟩ := szWordS_v x_Cells h_Cells left l0 l1
  by_cases c0 : v0 < 0
  · exact ⟨-1, by omega, fun h => by omega, fun k => by simp only [laws_szMem, laws_szMem_f, k0, lt0_t c0, bt]⟩
  exact ⟨v0, by omega, fun _ => b0 (by omega), fun k => by simp only [laws_szMem, laws_szMem_f, k0, lt0_f c0, bf]⟩
theorem toMem_v (x_Clock : Int) (x_Cells : List (List Int)) (h_Cells : x_Cells.length ≤ 1048576) (w_Cells : ∀ r ∈ x_Cells, r.length = 3) (k : (Int) → (List (List Int)) → R) : laws_toMem std x_Clock x_Cells k = k x_Clock x_Cells := by
  simp only [laws_toMem, laws_toMem_f, toWordS_v x_Cells h_Cells w_Cells]
theorem eqMem_r (x_Clock : Int) (x_Cells : List (List Int)) (h_Cells : x_Cells.length ≤ 1048576) (k : Bool → R) : laws_eqMem std x_Clock x_Cells x_Clock x_Cells k = k true := by
  have es : ∀ x : Int, std.not (std.eq x x) = false := fun x => by simp
  have eb : ∀ x : Bool, std.not (std.beq x x) = false := fun x => by simp
  simp only [laws_eqMem, laws_eqMem_f, es, eb, bt, bf, not_true', eqWordS_r x_Cells h_Cells]
theorem toProbe_v (x_Cell : Int) (x_Phase : Int) (x_Ver : Int) (x_Val : Int)  (k : (Int) → (Int) → (Int) → (Int) → R) : laws_toProbe std x_Cell x_Phase x_Ver x_Val k = k x_Cell x_Phase x_Ver x_Val := by
  simp only [laws_toProbe, laws_toProbe_f]
theorem eqProbe_r (x_Cell : Int) (x_Phase : Int) (x_Ver : Int) (x_Val : Int)  (k : Bool → R) : laws_eqProbe std x_Cell x_Phase x_Ver x_Val x_Cell x_Phase x_Ver x_Val k = k true := by
  have es : ∀ x : Int, std.not (std.eq x x) = false := fun x => by simp
  have eb : ∀ x : Bool, std.not (std.beq x x) = false := fun x => by simp
  simp only [laws_eqProbe, laws_eqProbe_f, es, eb, bt, bf, not_true']
theorem szCommit_v (x_Who : Int) (x_Rv : Int) (x_Phase : Int) (x_At : Int) (x_Wv : Int) (x_Puts : List (List Int)) (x_Reads : List Int) (h_Puts : x_Puts.length ≤ maxLen) (h_Reads : x_Reads.length ≤ maxLen) (left : Int) (l0 : 0 ≤ left) (l1 : left ≤ 1048576) : ∃ v, v ≤ left ∧ (0 ≤ v → x_Puts.length ≤ 1048576 ∧ x_Reads.length ≤ 1048576) ∧ ∀ k, laws_szCommit std x_Who x_Rv x_Phase x_At x_Wv x_Puts x_Reads left k = k v := by
  obtain ⟨v0, a0, b0, k0⟩ := szRowS_v x_Puts h_Puts left l0 l1
  by_cases c0 : v0 < 0
  · exact ⟨-1, by omega, fun h => by omega, fun k => by simp only [laws_szCommit, laws_szCommit_f, k0, lt0_t c0, bt]⟩
  obtain ⟨v1, a1, b1, k1⟩ := szIntS_v x_Reads h_Reads v0 (by omega) (by omega)
  by_cases c1 : v1 < 0
  · exact ⟨-1, by omega, fun h => by omega, fun k => by simp only [laws_szCommit, laws_szCommit_f, k0, k1, lt0_t c1, bt, lt0_f c0, bf]⟩
  exact ⟨v1, by omega, fun _ => ⟨b0 (by omega), b1 (by omega)⟩, fun k => by simp only [laws_szCommit, laws_szCommit_f, k0, k1, lt0_f c0, lt0_f c1, bf]⟩
theorem toCommit_v (x_Who : Int) (x_Rv : Int) (x_Phase : Int) (x_At : Int) (x_Wv : Int) (x_Puts : List (List Int)) (x_Reads : List Int) (h_Puts : x_Puts.length ≤ 1048576) (w_Puts : ∀ r ∈ x_Puts, r.length = 2) (h_Reads : x_Reads.length ≤ 1048576) (k : (Int) → (Int) → (Int) → (Int) → (Int) → (List (List Int)) → (List Int) → R) : laws_toCommit std x_Who x_Rv x_Phase x_At x_Wv x_Puts x_Reads k = k x_Who x_Rv x_Phase x_At x_Wv x_Puts x_Reads := by
  simp only [laws_toCommit, laws_toCommit_f, toRowS_v x_Puts h_Puts w_Puts, toIntS_v x_Reads h_Reads]
theorem eqCommit_r (x_Who : Int) (x_Rv : Int) (x_Phase : Int) (x_At : Int) (x_Wv : Int) (x_Puts : List (List Int)) (x_Reads : List Int) (h_Puts : x_Puts.length ≤ 1048576) (h_Reads : x_Reads.length ≤ 1048576) (k : Bool → R) : laws_eqCommit std x_Who x_Rv x_Phase x_At x_Wv x_Puts x_Reads x_Who x_Rv x_Phase x_At x_Wv x_Puts x_Reads k = k true := by
  have es : ∀ x : Int, std.not (std.eq x x) = false := fun x => by simp
  have eb : ∀ x : Bool, std.not (std.beq x x) = false := fun x => by simp
  simp only [laws_eqCommit, laws_eqCommit_f, es, eb, bt, bf, not_true', eqRowS_r x_Puts h_Puts, eqIntS_r x_Reads h_Reads]
theorem szJobRun_v (x_Phase : Int) (x_Tries : Int) (x_Rv : Int) (x_At : Int) (x_Stamp : Int) (x_Seen : List (List Int)) (x_Busy : Bool) (x_Probe_Cell : Int) (x_Probe_Phase : Int) (x_Probe_Ver : Int) (x_Probe_Val : Int) (x_Commit_Who : Int) (x_Commit_Rv : Int) (x_Commit_Phase : Int) (x_Commit_At : Int) (x_Commit_Wv : Int) (x_Commit_Puts : List (List Int)) (x_Commit_Reads : List Int) (h_Seen : x_Seen.length ≤ maxLen) (h_Commit_Puts : x_Commit_Puts.length ≤ maxLen) (h_Commit_Reads : x_Commit_Reads.length ≤ maxLen) (left : Int) (l0 : 0 ≤ left) (l1 : left ≤ 1048576) : ∃ v, v ≤ left ∧ (0 ≤ v → x_Seen.length ≤ 1048576 ∧ x_Commit_Puts.length ≤ 1048576 ∧ x_Commit_Reads.length ≤ 1048576) ∧ ∀ k, laws_szJobRun std x_Phase x_Tries x_Rv x_At x_Stamp x_Seen x_Busy x_Probe_Cell x_Probe_Phase x_Probe_Ver x_Probe_Val x_Commit_Who x_Commit_Rv x_Commit_Phase x_Commit_At x_Commit_Wv x_Commit_Puts x_Commit_Reads left k = k v := by
  obtain ⟨v0, a0, b0, k0⟩ := szRowS_v x_Seen h_Seen left l0 l1
  by_cases c0 : v0 < 0
  · exact ⟨-1, by omega, fun h => by omega, fun k => by simp only [laws_szJobRun, laws_szJobRun_f, k0, lt0_t c0, bt]⟩
  obtain ⟨v1, a1, b1, k1⟩ := szCommit_v x_Commit_Who x_Commit_Rv x_Commit_Phase x_Commit_At x_Commit_Wv x_Commit_Puts x_Commit_Reads h_Commit_Puts h_Commit_Reads v0 (by omega) (by omega)
  by_cases c1 : v1 < 0
  · exact ⟨-1, by omega, fun h => by omega, fun k => by simp only [laws_szJobRun, laws_szJobRun_f, k0, k1, lt0_t c1, bt, lt0_f c0, bf]⟩
  exact ⟨v1, by omega, fun _ => ⟨b0 (by omega), (b1 (by omega)).1, (b1 (by omega)).2⟩, fun k => by simp only [laws_szJobRun, laws_szJobRun_f, k0, k1, lt0_f c0, lt0_f c1, bf]⟩
theorem toJobRun_v (x_Phase : Int) (x_Tries : Int) (x_Rv : Int) (x_At : Int) (x_Stamp : Int) (x_Seen : List (List Int)) (x_Busy : Bool) (x_Probe_Cell : Int) (x_Probe_Phase : Int) (x_Probe_Ver : Int) (x_Probe_Val : Int) (x_Commit_Who : Int) (x_Commit_Rv : Int) (x_Commit_Phase : Int) (x_Commit_At : Int) (x_Commit_Wv : Int) (x_Commit_Puts : List (List Int)) (x_Commit_Reads : List Int) (h_Seen : x_Seen.length ≤ 1048576) (w_Seen : ∀ r ∈ x_Seen, r.length = 2) (h_Commit_Puts : x_Commit_Puts.length ≤ 1048576) (w_Commit_Puts : ∀ r ∈ x_Commit_Puts, r.length = 2) (h_Commit_Reads : x_Commit_Reads.length ≤ 1048576) (k : (Int) → (Int) → (Int) → (Int) → (Int) → (List (List Int)) → (Bool) → (Int) → (Int) → (Int) → (Int) → (Int) → (Int) → (Int) → (Int) → (Int) → (List (List Int)) → (List Int) → R) : laws_toJobRun std x_Phase x_Tries x_Rv x_At x_Stamp x_Seen x_Busy x_Probe_Cell x_Probe_Phase x_Probe_Ver x_Probe_Val x_Commit_Who x_Commit_Rv x_Commit_Phase x_Commit_At x_Commit_Wv x_Commit_Puts x_Commit_Reads k = k x_Phase x_Tries x_Rv x_At x_Stamp x_Seen x_Busy x_Probe_Cell x_Probe_Phase x_Probe_Ver x_Probe_Val x_Commit_Who x_Commit_Rv x_Commit_Phase x_Commit_At x_Commit_Wv x_Commit_Puts x_Commit_Reads := by
  simp only [laws_toJobRun, laws_toJobRun_f, toRowS_v x_Seen h_Seen w_Seen, toProbe_v x_Probe_Cell x_Probe_Phase x_Probe_Ver x_Probe_Val , toCommit_v x_Commit_Who x_Commit_Rv x_Commit_Phase x_Commit_At x_Commit_Wv x_Commit_Puts x_Commit_Reads h_Commit_Puts w_Commit_Puts h_Commit_Reads]
theorem eqJobRun_r (x_Phase : Int) (x_Tries : Int) (x_Rv : Int) (x_At : Int) (x_Stamp : Int) (x_Seen : List (List Int)) (x_Busy : Bool) (x_Probe_Cell : Int) (x_Probe_Phase : Int) (x_Probe_Ver : Int) (x_Probe_Val : Int) (x_Commit_Who : Int) (x_Commit_Rv : Int) (x_Commit_Phase : Int) (x_Commit_At : Int) (x_Commit_Wv : Int) (x_Commit_Puts : List (List Int)) (x_Commit_Reads : List Int) (h_Seen : x_Seen.length ≤ 1048576) (h_Commit_Puts : x_Commit_Puts.length ≤ 1048576) (h_Commit_Reads : x_Commit_Reads.length ≤ 1048576) (k : Bool → R) : laws_eqJobRun std x_Phase x_Tries x_Rv x_At x_Stamp x_Seen x_Busy x_Probe_Cell x_Probe_Phase x_Probe_Ver x_Probe_Val x_Commit_Who x_Commit_Rv x_Commit_Phase x_Commit_At x_Commit_Wv x_Commit_Puts x_Commit_Reads x_Phase x_Tries x_Rv x_At x_Stamp x_Seen x_Busy x_Probe_Cell x_Probe_Phase x_Probe_Ver x_Probe_Val x_Commit_Who x_Commit_Rv x_Commit_Phase x_Commit_At x_Commit_Wv x_Commit_Puts x_Commit_Reads k = k true := by
  have es : ∀ x : Int, std.not (std.eq x x) = false := fun x => by simp
  have eb : ∀ x : Bool, std.not (std.beq x x) = false := fun x => by simp
  simp only [laws_eqJobRun, laws_eqJobRun_f, es, eb, bt, bf, not_true', eqRowS_r x_Seen h_Seen, eqProbe_r x_Probe_Cell x_Probe_Phase x_Probe_Ver x_Probe_Val , eqCommit_r x_Commit_Who x_Commit_Rv x_Commit_Phase x_Commit_At x_Commit_Wv x_Commit_Puts x_Commit_Reads h_Commit_Puts h_Commit_Reads]
def nJobRun (a : List (List C)) (i : Nat) : List C := [.i (std.rint a (i : Int) 0), .i (std.rint a (i : Int) 1), .i (std.rint a (i : Int) 2), .i (std.rint a (i : Int) 3), .i (std.rint a (i : Int) 4), .s (std.ofv (std.rsv 2 a (i : Int) 5)), .b (std.rbool a (i : Int) 6), .i (std.rint a (i : Int) 7), .i (std.rint a (i : Int) 8), .i (std.rint a (i : Int) 9), .i (std.rint a (i : Int) 10), .i (std.rint a (i : Int) 11), .i (std.rint a (i : Int) 12), .i (std.rint a (i : Int) 13), .i (std.rint a (i : Int) 14), .i (std.rint a (i : Int) 15), .s (std.ofv (std.rsv 2 a (i : Int) 16)), .s (std.ofi (std.rsi a (i : Int) 17))]
def nJobRunS (a : List (List C)) : List (List C) := (List.range a.length).map (nJobRun a)
def bJobRun (a : List (List C)) (i : Nat) : Prop := (std.rsv 2 a (i : Int) 5).length ≤ 1048576 ∧ (std.rsv 2 a (i : Int) 16).length ≤ 1048576 ∧ (std.rsi a (i : Int) 17).length ≤ 1048576
def bJobRunS (a : List (List C)) : Prop := a.length ≤ 1048576 ∧ ∀ i, i < a.length → bJobRun a i
theorem szJobRunS_v (a : List (List C)) (h : FitArr cx (.rows 285 a)) (left : Int) (h0 : 0 ≤ left) (h1 : left ≤ 1048576) : ∃ v, v ≤ left ∧ (0 ≤ v → bJobRunS a) ∧ ∀ k, laws_szJobRunS std a left k = k v := by
  have hm : maxLen = 9223372036854775807 := by decide
  have hl := fit_len h
  have e : std.sub .i64 left (a.length : Int) = left - a.length := by rw [std_sub]; exact i64_wrap (by omega) (by omega)
  unfold laws_szJobRunS laws_szJobRunS_f
  simp only [std_rlen, e, std_lt]
  generalize hN : std.fuel = N
  have hN : 4294967296 = N := hN
  by_cases hc : left - (a.length : Int) < 0
  · exact ⟨-1, by omega, fun h => by omega, fun k => by simp only [decide_eq_true hc, bt]⟩
  · have hs : ∀ i left, i < a.length → 0 ≤ left → left ≤ 1048576 → ∃ v, v ≤ left ∧ (0 ≤ v → bJobRun a i) ∧ ∀ k n, laws_szJobRunS_l0 std (laws_szJobRun std) (n + 1) a left (i : Int) k k = bif std.lt v 0 then k (-1) else laws_szJobRunS_l0 std (laws_szJobRun std) n a v ((i + 1 : Nat) : Int) k k := fun i left hi l0 l1 => by
      obtain ⟨v, v1, v2, v3⟩ := szJobRun_v (std.rint a (i : Int) 0) (std.rint a (i : Int) 1) (std.rint a (i : Int) 2) (std.rint a (i : Int) 3) (std.rint a (i : Int) 4) (std.rsv 2 a (i : Int) 5) (std.rbool a (i : Int) 6) (std.rint a (i : Int) 7) (std.rint a (i : Int) 8) (std.rint a (i : Int) 9) (std.rint a (i : Int) 10) (std.rint a (i : Int) 11) (std.rint a (i : Int) 12) (std.rint a (i : Int) 13) (std.rint a (i : Int) 14) (std.rint a (i : Int) 15) (std.rsv 2 a (i : Int) 16) (std.rsi a (i : Int) 17) (fit_rsv h rfl hi (j := 5) (by decide) rfl rfl rfl).1 (fit_rsv h rfl hi (j := 16) (by decide) rfl rfl rfl).1 (fit_rsi h rfl hi (j := 17) (by decide) rfl rfl rfl).1 left l0 l1
      exact ⟨v, v1, v2, fun k n => by simp only [laws_szJobRunS_l0, std_rlen, lt_nat_t hi, inb_nat_t hi, bt, v3, add1 (i := i) (by omega)]⟩
    have he : ∀ (k : Int → R) n left, laws_szJobRunS_l0 std (laws_szJobRun std) (n + 1) a left (a.length : Int) k k = k left := fun k n left => by simp only [laws_szJobRunS_l0, std_rlen, lt_nat_f (Nat.le_refl _), bf]
    obtain ⟨v, v1, v2, v3⟩ := loop_left (F := fun k n i left => laws_szJobRunS_l0 std (laws_szJobRun std) n a left i k k) (P := bJobRun a) (len := a.length) (N := N) (by omega) hs he (left - a.length) (by omega) (by omega)
    exact ⟨v, by omega, fun h => ⟨by omega, v2 h⟩, fun k => by simp only [decide_eq_false hc, bf]; exact v3 k⟩
theorem toJobRunS_v (a : List (List C)) (h : bJobRunS a) (k : List (List C) → R) : laws_toJobRunS std a k = k (nJobRunS a) := by
  have hb := h.1
  unfold laws_toJobRunS laws_toJobRunS_f
  generalize hN : std.fuel = N
  have hN : 4294967296 = N := hN
  have e1 : std.mkOk (a.length : Int) = true := by rw [std_mkOk]; exact decide_eq_true (by omega)
  have e2 : std.le (a.length : Int) (a.length : Int) = true := by rw [std_le]; exact decide_eq_true (Int.le_refl _)
  simp only [std_rlen, e1, e2, bt, std_rzero, Int.toNat_natCast]
  refine loop_fill (nJobRun a) _ (len := a.length) (F := fun n i o => laws_toJobRunS_l0 std (laws_toJobRun std) n a i o (fun o => k o)) (kx := k) (N := N) (by omega) (fun n i o hi ho => ?_) (fun n o => ?_)
  · have hv := fun kk => toJobRun_v (std.rint a (i : Int) 0) (std.rint a (i : Int) 1) (std.rint a (i : Int) 2) (std.rint a (i : Int) 3) (std.rint a (i : Int) 4) (std.rsv 2 a (i : Int) 5) (std.rbool a (i : Int) 6) (std.rint a (i : Int) 7) (std.rint a (i : Int) 8) (std.rint a (i : Int) 9) (std.rint a (i : Int) 10) (std.rint a (i : Int) 11) (std.rint a (i : Int) 12) (std.rint a (i : Int) 13) (std.rint a (i : Int) 14) (std.rint a (i : Int) 15) (std.rsv 2 a (i : Int) 16) (std.rsi a (i : Int) 17) ((h.2 i hi).1) (rsv_wide _ _ _ _) ((h.2 i hi).2.1) (rsv_wide _ _ _ _) ((h.2 i hi).2.2) (k := kk)
    simp only [laws_toJobRunS_l0, std_rlen, lt_nat_t hi, inb_nat_t hi, bt, ho, hv, std_rput, Int.toNat_natCast, add1 (i := i) (by omega)]
    try rfl
  · simp only [laws_toJobRunS_l0, std_rlen, lt_nat_f (Nat.le_refl _), bf]
theorem rdJobRun_5 (a : List (List C)) (i : Nat) (hi : i < a.length) : (std.rsv 2 (nJobRunS a) (i : Int) 5) = (std.rsv 2 a (i : Int) 5) := by
  show ((asRows (cOf (nJobRunS a) (i : Int).toNat 5)).map fun r => (List.range 2).map fun q => asInt (cAt r q)) = _
  rw [Int.toNat_natCast, nJobRunS, cOf_fill _ hi]
  exact rsv_cell (rsv_wide _ _ _ _)
theorem rdJobRun_16 (a : List (List C)) (i : Nat) (hi : i < a.length) : (std.rsv 2 (nJobRunS a) (i : Int) 16) = (std.rsv 2 a (i : Int) 16) := by
  show ((asRows (cOf (nJobRunS a) (i : Int).toNat 16)).map fun r => (List.range 2).map fun q => asInt (cAt r q)) = _
  rw [Int.toNat_natCast, nJobRunS, cOf_fill _ hi]
  exact rsv_cell (rsv_wide _ _ _ _)
theorem rdJobRun_17 (a : List (List C)) (i : Nat) (hi : i < a.length) : (std.rsi (nJobRunS a) (i : Int) 17) = (std.rsi a (i : Int) 17) := by
  show ((asRows (cOf (nJobRunS a) (i : Int).toNat 17)).map fun r => asInt (cAt r 0)) = _
  rw [Int.toNat_natCast, nJobRunS, cOf_fill _ hi]
  exact rsi_cell _
theorem lenJobRunS (a : List (List C)) : (nJobRunS a).length = a.length := by simp [nJobRunS]
theorem bJobRunS_n (a : List (List C)) (h : bJobRunS a) : bJobRunS (nJobRunS a) := ⟨by rw [lenJobRunS]; exact h.1, fun i hi => by
  rw [lenJobRunS] at hi
  exact ⟨(by rw [rdJobRun_5 a i hi]; exact (h.2 i hi).1), (by rw [rdJobRun_16 a i hi]; exact (h.2 i hi).2.1), (by rw [rdJobRun_17 a i hi]; exact (h.2 i hi).2.2)⟩⟩
theorem eqJobRunS_r (a : List (List C)) (h : bJobRunS a) (k : Bool → R) : laws_eqJobRunS std a a k = k true := by
  have hb := h.1
  unfold laws_eqJobRunS laws_eqJobRunS_f
  generalize hN : std.fuel = N
  have hN : 4294967296 = N := hN
  have es : ∀ x : Int, std.not (std.eq x x) = false := fun x => by simp
  have lp : laws_eqJobRunS_l0 std (laws_eqJobRun std) N a a 0 (fun t => k t) (fun _ => k true) = k true := by
    refine loop_true (F := fun n i => laws_eqJobRunS_l0 std (laws_eqJobRun std) n a a i (fun t => k t) (fun _ => k true)) (len := a.length) (by omega) (fun n i hi => ?_) (fun n => ?_)
    · have hv := fun kk => eqJobRun_r (std.rint a (i : Int) 0) (std.rint a (i : Int) 1) (std.rint a (i : Int) 2) (std.rint a (i : Int) 3) (std.rint a (i : Int) 4) (std.rsv 2 a (i : Int) 5) (std.rbool a (i : Int) 6) (std.rint a (i : Int) 7) (std.rint a (i : Int) 8) (std.rint a (i : Int) 9) (std.rint a (i : Int) 10) (std.rint a (i : Int) 11) (std.rint a (i : Int) 12) (std.rint a (i : Int) 13) (std.rint a (i : Int) 14) (std.rint a (i : Int) 15) (std.rsv 2 a (i : Int) 16) (std.rsi a (i : Int) 17) ((h.2 i hi).1) ((h.2 i hi).2.1) ((h.2 i hi).2.2) (k := kk)
      simp only [laws_eqJobRunS_l0, std_rlen, lt_nat_t hi, inb_nat_t hi, bt, bf, hv, not_true', add1 (i := i) (by omega)]
    · simp only [laws_eqJobRunS_l0, std_rlen, lt_nat_f (Nat.le_refl _), bf]
  rw [es, bf, lp]
theorem szDuel_v (x_Mem_Clock : Int) (x_Mem_Cells : List (List Int)) (x_Jobs : List (List C)) (x_Hist : List (List C)) (h_Mem_Cells : x_Mem_Cells.length ≤ maxLen) (h_Jobs : FitArr cx (.rows 285 x_Jobs)) (h_Hist : FitArr cx (.rows 195 x_Hist)) (left : Int) (l0 : 0 ≤ left) (l1 : left ≤ 1048576) : ∃ v, v ≤ left ∧ (0 ≤ v → x_Mem_Cells.length ≤ 1048576 ∧ bJobRunS x_Jobs ∧ bWroteS x_Hist) ∧ ∀ k, laws_szDuel std x_Mem_Clock x_Mem_Cells x_Jobs x_Hist left k = k v := by
  obtain ⟨v0, a0, b0, k0⟩ := szMem_v x_Mem_Clock x_Mem_Cells h_Mem_Cells left l0 l1
  by_cases c0 : v0 < 0
  · exact ⟨-1, by omega, fun h => by omega, fun k => by simp only [laws_szDuel, laws_szDuel_f, k0, lt0_t c0, bt]⟩
  obtain ⟨v1, a1, b1, k1⟩ := szJobRunS_v x_Jobs h_Jobs v0 (by omega) (by omega)
  by_cases c1 : v1 < 0
  · exact ⟨-1, by omega, fun h => by omega, fun k => by simp only [laws_szDuel, laws_szDuel_f, k0, k1, lt0_t c1, bt, lt0_f c0, bf]⟩
  obtain ⟨v2, a2, b2, k2⟩ := szWroteS_v x_Hist h_Hist v1 (by omega) (by omega)
  by_cases c2 : v2 < 0
  · exact ⟨-1, by omega, fun h => by omega, fun k => by simp only [laws_szDuel, laws_szDuel_f, k0, k1, k2, lt0_t c2, bt, lt0_f c0, lt0_f c1, bf]⟩
  exact ⟨v2, by omega, fun _ => ⟨b0 (by omega), b1 (by omega), b2 (by omega)⟩, fun k => by simp only [laws_szDuel, laws_szDuel_f, k0, k1, k2, lt0_f c0, lt0_f c1, lt0_f c2, bf]⟩
theorem toDuel_v (x_Mem_Clock : Int) (x_Mem_Cells : List (List Int)) (x_Jobs : List (List C)) (x_Hist : List (List C)) (h_Mem_Cells : x_Mem_Cells.length ≤ 1048576) (w_Mem_Cells : ∀ r ∈ x_Mem_Cells, r.length = 3) (h_Jobs : bJobRunS x_Jobs) (h_Hist : bWroteS x_Hist) (k : (Int) → (List (List Int)) → (List (List C)) → (List (List C)) → R) : laws_toDuel std x_Mem_Clock x_Mem_Cells x_Jobs x_Hist k = k x_Mem_Clock x_Mem_Cells (nJobRunS x_Jobs) (nWroteS x_Hist) := by
  simp only [laws_toDuel, laws_toDuel_f, toMem_v x_Mem_Clock x_Mem_Cells h_Mem_Cells w_Mem_Cells, toJobRunS_v x_Jobs h_Jobs, toWroteS_v x_Hist h_Hist]
theorem eqDuel_r (x_Mem_Clock : Int) (x_Mem_Cells : List (List Int)) (x_Jobs : List (List C)) (x_Hist : List (List C)) (h_Mem_Cells : x_Mem_Cells.length ≤ 1048576) (h_Jobs : bJobRunS x_Jobs) (h_Hist : bWroteS x_Hist) (k : Bool → R) : laws_eqDuel std x_Mem_Clock x_Mem_Cells x_Jobs x_Hist x_Mem_Clock x_Mem_Cells x_Jobs x_Hist k = k true := by
  have es : ∀ x : Int, std.not (std.eq x x) = false := fun x => by simp
  have eb : ∀ x : Bool, std.not (std.beq x x) = false := fun x => by simp
  simp only [laws_eqDuel, laws_eqDuel_f, es, eb, bt, bf, not_true', eqMem_r x_Mem_Clock x_Mem_Cells h_Mem_Cells, eqJobRunS_r x_Jobs h_Jobs, eqWroteS_r x_Hist h_Hist]
end X
