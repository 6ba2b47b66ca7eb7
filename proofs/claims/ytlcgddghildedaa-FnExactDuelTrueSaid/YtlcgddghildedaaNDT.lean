/- Models of the functions, or plain laws about them; each theorem states its own conditions. -/
import Derived.Test.YtlcgddghildedaaNSA
import Derived.Test.YtlcgddghildedaaND2
set_option linter.unusedVariables false
set_option linter.unusedSimpArgs false
open Go.Proofs
namespace X
open PM Go
/-! ## The state keeps eight values -/
theorem valsB_iff {o : List Int} {n : Nat} : valsB o (n : Int) = true ↔ o.length = n ∧ ∀ i, i < n → valB (o.getD i 0) = true := by
  constructor
  · intro h
    have hl := valsB_len h
    unfold valsB at h
    rw [Bool.and_eq_true] at h
    refine ⟨hl, fun i hi => ?_⟩
    have := allB_at h.1 (i := i) (by omega)
    rwa [std_iget, Int.toNat_natCast] at this
  · rintro ⟨hl, hv⟩
    unfold valsB
    rw [Bool.and_eq_true, std_eq, std_ilen, hl]
    refine ⟨allB_iff.2 fun i hi => ?_, by simp⟩
    rw [std_iget, Int.toNat_natCast]
    exact hv i (by omega)
theorem ovG_vals {l : List (List Int)} (h : rowsOk l = true) {i : Nat} (hi : i < l.length) {o : List Int} (ho : valsB o 8 = true) : valsB (ovG l i o) 8 = true := by
  obtain ⟨h1, h2⟩ := (valsB_iff (n := 8)).1 ho
  unfold rowsOk at h
  rw [Bool.and_eq_true] at h
  have hr := allB_at h.2 hi
  unfold rowOk at hr
  rw [Bool.and_eq_true] at hr
  refine (valsB_iff (n := 8)).2 ⟨by rw [ovG_len]; exact h1, fun q hq => ?_⟩
  unfold ovG
  rw [std_iset]
  rw [List.getD_eq_getElem?_getD, List.getElem?_set]
  split
  · split
    · exact hr.2
    · rename_i hn
      rw [Option.getD_none]
      rfl
  · have := h2 q hq
    rwa [List.getD_eq_getElem?_getD] at this
theorem ovL_vals {l : List (List Int)} (h : rowsOk l = true) {o : List Int} (ho : valsB o 8 = true) : valsB (ovL o l) 8 = true := by
  unfold ovL
  rw [ho, h, Bool.and_self, bt]
  exact foldN_P (P := fun o : List Int => valsB o 8 = true) (len := l.length) (fun i o hi hp => ovG_vals h hi hp) _ 0 o (by omega) ho
theorem saV_vals {cells : List Int} {a : List (List C)} (n : Int) (h1 : valsB cells 8 = true) (h2 : histB a = true) : valsB (saV cells a n) 8 = true := by
  unfold saV
  rw [h1, h2, Bool.and_self, bt]
  refine foldN_P (P := fun o : List Int => valsB o 8 = true) (len := a.length) (fun i o hi hp => ?_) _ 0 cells (by omega) h1
  unfold saG
  obtain ⟨q, hq, _, _, e4⟩ := srtR_at h2 hi
  cases std.le (std.rint (srtR a) (i : Int) 0) n
  · exact hp
  · rw [bt, e4]
    exact ovL_vals (hist_at h2 hq).2.1 hp
/-! ## Memory -/
def wordOk (c : Int) (m : List (List Int)) (i : Nat) : Bool := valB (std.vget m (i : Int) 0) && (inB (std.vget m (i : Int) 1) 0 c && inB (std.vget m (i : Int) 2) 0 99)
def memB (c : Int) (m : List (List Int)) : Bool := std.eq (std.vlen m) 8 && (inB c 0 1000000 && allB (wordOk c m) m.length)
theorem MemOk_sp (c : Int) (m : List (List Int)) (hb : m.length ≤ 1048576) (k : Bool → R) : spec_MemOk std c m k = k (memB c m) := by
  unfold spec_MemOk spec_MemOk_f memB
  generalize hN : std.fuel = N
  have hN : 4294967296 = N := hN
  have lp : spec_MemOk_l0 std (spec_l1In std) (spec_l3Val std) N 0 c m (fun t => k t) (fun _ => k true) = bif allB (wordOk c m) m.length then k true else k false := by
    refine loop_all0 (F := fun n i => spec_MemOk_l0 std (spec_l1In std) (spec_l3Val std) n i c m (fun t => k t) (fun _ => k true)) (by omega) (fun n i hi => ?_) (fun n => ?_)
    · simp only [spec_MemOk_l0, std_vlen, lt_nat_t hi, inb_nat_t hi, bt, val_val, in_val, wordOk, add1 (i := i) (by omega)]
      cases valB (std.vget m (i : Int) 0) <;> cases inB (std.vget m (i : Int) 1) 0 c <;> cases inB (std.vget m (i : Int) 2) 0 99 <;> rfl
    · simp only [spec_MemOk_l0, std_vlen, lt_nat_f (Nat.le_refl _), bf]
  rw [in_val, lp]
  cases std.eq (std.vlen m) 8 <;> cases inB c 0 1000000 <;> cases allB (wordOk c m) m.length <;> rfl
theorem MemOk_im (c : Int) (m : List (List Int)) (hb : m.length ≤ 1048576) (k : Bool → R) : impl_MemOk std c m k = k (memB c m) := by
  unfold impl_MemOk impl_MemOk_f memB
  generalize hN : std.fuel = N
  have hN : 4294967296 = N := hN
  have lp : ∀ kx : Int → List (List Int) → R, impl_MemOk_l0 std (impl_within std) (impl_isValue std) N m (m.length : Int) 0 c m (fun t => k t) kx = bif allB (wordOk c m) m.length then kx c m else k false := fun kx => by
    refine loop_all0 (F := fun n i => impl_MemOk_l0 std (impl_within std) (impl_isValue std) n m (m.length : Int) i c m (fun t => k t) kx) (by omega) (fun n i hi => ?_) (fun n => ?_)
    · simp only [impl_MemOk_l0, std_vlen, lt_nat_t hi, inb_nat_t hi, bt, val_val', in_val', wordOk, add1 (i := i) (by omega)]
      cases valB (std.vget m (i : Int) 0) <;> cases inB (std.vget m (i : Int) 1) 0 c <;> cases inB (std.vget m (i : Int) 2) 0 99 <;> rfl
    · simp only [impl_MemOk_l0, lt_nat_f (Nat.le_refl _), bf]
  rw [std_vlen, lp, in_val']
  simp only [std_vlen]
  cases std.eq (m.length : Int) 8 <;> cases inB c 0 1000000 <;> cases allB (wordOk c m) m.length <;> rfl
def memV (m : List (List Int)) (i : Nat) : List Int := (List.range i).map fun i => std.vget m ((i : Nat) : Int) 0
theorem memV_len (m : List (List Int)) (i : Nat) : (memV m i).length = i := by simp [memV]
theorem memV_succ (m : List (List Int)) (i : Nat) : std.iapp (memV m i) [std.vget m (i : Int) 0] = memV m (i + 1) := by unfold memV; rw [List.range_succ, List.map_append]; rfl
def valsV (c : Int) (m : List (List Int)) : List Int := bif memB c m then memV m m.length else []
theorem valsV_len (c : Int) (m : List (List Int)) (h : m.length ≤ 1048576) : (valsV c m).length ≤ 1048576 := by
  unfold valsV
  cases memB c m
  · simp
  · rw [bt, memV_len]; exact h
theorem Values_sp (c : Int) (m : List (List Int)) (hb : m.length ≤ 1048576) (k : List Int → R) : spec_Values std c m k = k (valsV c m) := by
  unfold spec_Values spec_Values_f valsV
  rw [MemOk_sp c m hb]
  cases memB c m
  · rfl
  rw [not_true', bf, bt]
  have key : ∀ (q N i : Nat), i + q = m.length → q < N → spec_Values_l0 std (spec_MemOk std) N (i : Int) c m (memV m i) (fun o => k o) = k (memV m m.length) := by
    intro q
    induction q with
    | zero =>
      intro N i hi hn
      obtain ⟨N, rfl⟩ : ∃ q, N = q + 1 := ⟨N - 1, by omega⟩
      have : i = m.length := by omega
      subst this
      simp only [spec_Values_l0, std_vlen, lt_nat_f (Nat.le_refl _), bf]
    | succ q ih =>
      intro N i hi hn
      obtain ⟨N, rfl⟩ : ∃ q, N = q + 1 := ⟨N - 1, by omega⟩
      have e3 : std.room (std.ilen (memV m i)) (std.ilen [std.vget m (i : Int) 0]) = true := by rw [std_room, std_ilen, std_ilen, memV_len]; exact decide_eq_true (by simp; omega)
      simp only [spec_Values_l0, std_vlen, lt_nat_t (show i < m.length by omega), inb_nat_t (show i < m.length by omega), bt, e3, memV_succ, add1 (i := i) (by omega)]
      exact ih N (i + 1) (by omega) (by omega)
  exact key m.length std.fuel 0 (by omega) (by rw [std_fuel]; omega)
theorem Values_im (c : Int) (m : List (List Int)) (hb : m.length ≤ 1048576) (k : List Int → R) : impl_Values std c m k = k (valsV c m) := by
  unfold impl_Values impl_Values_f valsV
  rw [MemOk_im c m hb]
  cases memB c m
  · rfl
  rw [not_true', bf, bt, std_vlen]
  have key : ∀ (q N i : Nat), i + q = m.length → q < N → impl_Values_l0 std (impl_MemOk std) N m (m.length : Int) (i : Int) (memV m i) (fun o => k o) = k (memV m m.length) := by
    intro q
    induction q with
    | zero =>
      intro N i hi hn
      obtain ⟨N, rfl⟩ : ∃ q, N = q + 1 := ⟨N - 1, by omega⟩
      have : i = m.length := by omega
      subst this
      simp only [impl_Values_l0, lt_nat_f (Nat.le_refl _), bf]
    | succ q ih =>
      intro N i hi hn
      obtain ⟨N, rfl⟩ : ∃ q, N = q + 1 := ⟨N - 1, by omega⟩
      have e3 : std.room (std.ilen (memV m i)) (std.ilen [std.vget m (i : Int) 0]) = true := by rw [std_room, std_ilen, std_ilen, memV_len]; exact decide_eq_true (by simp; omega)
      simp only [impl_Values_l0, std_vlen, lt_nat_t (show i < m.length by omega), inb_nat_t (show i < m.length by omega), bt, e3, memV_succ, add1 (i := i) (by omega)]
      exact ih N (i + 1) (by omega) (by omega)
  exact key m.length std.fuel 0 (by omega) (by rw [std_fuel]; omega)
def eqLB (a b : List Int) : Bool := std.eq (std.ilen a) (std.ilen b) && allB (fun i => std.eq (std.iget a (i : Int)) (std.iget b (i : Int))) a.length
theorem l7Ints_val (a b : List Int) (ha : a.length ≤ 1048576) (k : Bool → R) : spec_l7Ints std a b k = k (eqLB a b) ∧ slices_Equal___int_int_ std a b k = k (eqLB a b) := by
  unfold spec_l7Ints spec_l7Ints_f slices_Equal___int_int_ slices_Equal___int_int__f eqLB
  cases h : std.eq (std.ilen a) (std.ilen b)
  · exact ⟨rfl, rfl⟩
  have hl : a.length = b.length := by rw [std_eq, std_ilen, std_ilen, beq_iff_eq] at h; omega
  rw [not_true', bf, bf, Bool.true_and]
  generalize hN : std.fuel = N
  have hN : 4294967296 = N := hN
  constructor
  · have lp : spec_l7Ints_l0 std N a b 0 (fun t => k t) (fun _ => k true) = bif allB (fun i => std.eq (std.iget a (i : Int)) (std.iget b (i : Int))) a.length then k true else k false := by
      refine loop_all0 (F := fun n i => spec_l7Ints_l0 std n a b i (fun t => k t) (fun _ => k true)) (by omega) (fun n i hi => ?_) (fun n => ?_)
      · simp only [spec_l7Ints_l0, std_ilen, lt_nat_t hi, inb_nat_t hi, inb_nat_t (show i < b.length by omega), bt, bif_not, add1 (i := i) (by omega)]
      · simp only [spec_l7Ints_l0, std_ilen, lt_nat_f (Nat.le_refl _), bf]
    rw [lp]
    cases allB _ _ <;> rfl
  · rw [std_ilen]
    have lp : slices_Equal___int_int__l0 std N a b (a.length : Int) 0 (fun t => k t) (fun _ => k true) = bif allB (fun i => std.eq (std.iget a (i : Int)) (std.iget b (i : Int))) a.length then k true else k false := by
      refine loop_all0 (F := fun n i => slices_Equal___int_int__l0 std n a b (a.length : Int) i (fun t => k t) (fun _ => k true)) (by omega) (fun n i hi => ?_) (fun n => ?_)
      · simp only [slices_Equal___int_int__l0, std_ilen, lt_nat_t hi, inb_nat_t hi, inb_nat_t (show i < b.length by omega), bt, bif_not, add1 (i := i) (by omega)]
      · simp only [slices_Equal___int_int__l0, lt_nat_f (Nat.le_refl _), bf]
    rw [lp]
    cases allB _ _ <;> rfl
/-! ## DuelTrue -/
def seenB (s : List Int) (rows : List (List Int)) : Bool := allB (fun q => std.eq (std.iget s (std.vget rows (q : Int) 0)) (std.vget rows (q : Int) 1)) rows.length
def jobT (cells : List Int) (h : List (List C)) (a : List (List C)) (i : Nat) : Bool := rowsOk (std.rsv 2 a (i : Int) 5) && seenB (saV cells h (std.rint a (i : Int) 2)) (std.rsv 2 a (i : Int) 5)
def duelT (cells : List Int) (c : Int) (m : List (List Int)) (a h : List (List C)) : Bool :=
  valsB cells 8 && (memB c m && (histB h && (allB (jobT cells h a) a.length && bif allB (fun i => std.eq (std.rint a (i : Int) 0) 3) a.length then eqLB (valsV c m) (saV cells h c) else true)))
theorem seen_sp {cells : List Int} {s : List Int} (hs : valsB s 8 = true) (i : Int) (c : Int) (m : List (List Int)) (a h : List (List C)) (y0 y1 y2 y3 y4 : Int) (rows : List (List Int)) (hr : rowsOk rows = true) (hl : rows.length ≤ 1048576) (y6 : Bool) (y7 y8 y9 y10 y11 y12 y13 y14 y15 : Int) (y16 : List (List Int)) (y17 : List Int)
    (kret : Bool → R) (kx : List Int → Int → Int → List (List Int) → List (List C) → List (List C) → R) (N : Nat) (hN : rows.length < N) :
    spec_DuelTrue_l2 std (spec_RowsOk std) (spec_HistOk std) (spec_l3Vals std) (spec_StateAt std) (spec_MemOk std) (spec_DuelOver std) (spec_Values std) (spec_l7Ints std) N cells i 0 c m a h y0 y1 y2 y3 y4 rows y6 y7 y8 y9 y10 y11 y12 y13 y14 y15 y16 y17 s kret kx = bif seenB s rows then kx cells i c m a h else kret false := by
  refine loop_all0 (F := fun n q => spec_DuelTrue_l2 std (spec_RowsOk std) (spec_HistOk std) (spec_l3Vals std) (spec_StateAt std) (spec_MemOk std) (spec_DuelOver std) (spec_Values std) (spec_l7Ints std) n cells i q c m a h y0 y1 y2 y3 y4 rows y6 y7 y8 y9 y10 y11 y12 y13 y14 y15 y16 y17 s kret kx) hN (fun n q hq => ?_) (fun n => ?_)
  · simp only [spec_DuelTrue_l2, std_vlen, lt_nat_t hq, inb_nat_t hq, bt, row_cell hr hq (valsB_len (n := 8) hs), bif_not, add1 (i := q) (by omega)]
  · simp only [spec_DuelTrue_l2, std_vlen, lt_nat_f (Nat.le_refl _), bf]
theorem seen_im {cells : List Int} {s : List Int} (hs : valsB s 8 = true) (t0 : List (List C)) (t1 t2 : Int) (c : Int) (m : List (List Int)) (a h : List (List C)) (rows : List (List Int)) (hr : rowsOk rows = true) (hl : rows.length ≤ 1048576)
    (kret : Bool → R) (kx : List Int → List (List C) → Int → Int → Int → List (List Int) → List (List C) → List (List C) → R) (N : Nat) (hN : rows.length < N) :
    impl_DuelTrue_l2 std (impl_RowsOk std) (impl_HistOk std) (impl_areValues std) (impl_StateAt std) (impl_MemOk std) (impl_DuelOver std) (impl_Values std) (slices_Equal___int_int_ std) N cells t0 t1 t2 rows (rows.length : Int) 0 c m a h s kret kx = bif seenB s rows then kx cells t0 t1 t2 c m a h else kret false := by
  refine loop_all0 (F := fun n q => impl_DuelTrue_l2 std (impl_RowsOk std) (impl_HistOk std) (impl_areValues std) (impl_StateAt std) (impl_MemOk std) (impl_DuelOver std) (impl_Values std) (slices_Equal___int_int_ std) n cells t0 t1 t2 rows (rows.length : Int) q c m a h s kret kx) hN (fun n q hq => ?_) (fun n => ?_)
  · simp only [impl_DuelTrue_l2, std_vlen, lt_nat_t hq, inb_nat_t hq, bt, row_cell hr hq (valsB_len (n := 8) hs), bif_not, add1 (i := q) (by omega)]
  · simp only [impl_DuelTrue_l2, lt_nat_f (Nat.le_refl _), bf]
theorem DuelTrue_sp (cells : List Int) (hc : cells.length ≤ 1048576) (c : Int) (m : List (List Int)) (hm : m.length ≤ 1048576) (a h : List (List C)) (ha : bJobRunS a) (hh : bWroteS h) (k : Bool → R) : spec_DuelTrue std cells c m a h k = k (duelT cells c m a h) := by
  have ha1 := ha.1
  unfold spec_DuelTrue spec_DuelTrue_f duelT
  rw [l3Vals_val cells hc, MemOk_sp c m hm, HistOk_sp h hh]
  cases hv : valsB cells 8
  · rfl
  cases memB c m
  · rfl
  cases hb : histB h
  · rfl
  simp only [not_true', bf, Bool.true_and]
  generalize hF : std.fuel = N
  have hN : 4294967296 = N := hF
  have lp : ∀ kx : List Int → Int → List (List Int) → List (List C) → List (List C) → R, spec_DuelTrue_l0 std (spec_RowsOk std) (spec_HistOk std) (spec_l3Vals std) (spec_StateAt std) (spec_MemOk std) (spec_DuelOver std) (spec_Values std) (spec_l7Ints std) N cells 0 c m a h (fun t => k t) kx = bif allB (jobT cells h a) a.length then kx cells c m a h else k false := fun kx => by
    refine loop_all0 (F := fun n i => spec_DuelTrue_l0 std (spec_RowsOk std) (spec_HistOk std) (spec_l3Vals std) (spec_StateAt std) (spec_MemOk std) (spec_DuelOver std) (spec_Values std) (spec_l7Ints std) n cells i c m a h (fun t => k t) kx) (by omega) (fun n i hi => ?_) (fun n => ?_)
    · have b1 := (ha.2 i hi).1
      simp only [spec_DuelTrue_l0, std_rlen, lt_nat_t hi, inb_nat_t hi, bt, (RowsOk_val _ b1 _).1, jobT, add1 (i := i) (by omega)]
      cases hr : rowsOk (std.rsv 2 a (i : Int) 5)
      · rfl
      · have hs := saV_vals (std.rint a (i : Int) 2) hv hb
        simp only [not_true', bf, StateAt_sp cells hc h hh, hF]
        rw [seen_sp hs _ _ _ _ _ _ _ _ _ _ _ hr b1 _ _ _ _ _ _ _ _ _ _ _ _ _ _ N (by omega), Bool.true_and]
        simp only [add1 (i := i) (show i ≤ 4611686018427387904 by omega)]
    · simp only [spec_DuelTrue_l0, std_rlen, lt_nat_f (Nat.le_refl _), bf]
  rw [lp, DuelOver_sp c m a h ha1]
  cases allB (jobT cells h a) a.length
  · rfl
  rw [bt, Bool.true_and]
  cases allB (fun i => std.eq (std.rint a (i : Int) 0) 3) a.length
  · rfl
  simp only [not_true', bf, bt, Values_sp c m hm, StateAt_sp cells hc h hh, (l7Ints_val _ _ (valsV_len c m hm) _).1]
theorem DuelTrue_im (cells : List Int) (hc : cells.length ≤ 1048576) (c : Int) (m : List (List Int)) (hm : m.length ≤ 1048576) (a h : List (List C)) (ha : bJobRunS a) (hh : bWroteS h) (k : Bool → R) : impl_DuelTrue std cells c m a h k = k (duelT cells c m a h) := by
  have ha1 := ha.1
  unfold impl_DuelTrue impl_DuelTrue_f duelT
  rw [areValues_val cells hc, MemOk_im c m hm, HistOk_im h hh]
  cases hv : valsB cells 8
  · rfl
  cases memB c m
  · rfl
  cases hb : histB h
  · rfl
  simp only [not_true', bf, Bool.true_and]
  generalize hF : std.fuel = N
  have hN : 4294967296 = N := hF
  rw [std_rlen]
  have lp : ∀ kx : List Int → Int → List (List Int) → List (List C) → List (List C) → R, impl_DuelTrue_l0 std (impl_RowsOk std) (impl_HistOk std) (impl_areValues std) (impl_StateAt std) (impl_MemOk std) (impl_DuelOver std) (impl_Values std) (slices_Equal___int_int_ std) N cells a (a.length : Int) 0 c m a h (fun t => k t) kx = bif allB (jobT cells h a) a.length then kx cells c m a h else k false := fun kx => by
    refine loop_all0 (F := fun n i => impl_DuelTrue_l0 std (impl_RowsOk std) (impl_HistOk std) (impl_areValues std) (impl_StateAt std) (impl_MemOk std) (impl_DuelOver std) (impl_Values std) (slices_Equal___int_int_ std) n cells a (a.length : Int) i c m a h (fun t => k t) kx) (by omega) (fun n i hi => ?_) (fun n => ?_)
    · have b1 := (ha.2 i hi).1
      simp only [impl_DuelTrue_l0, std_rlen, lt_nat_t hi, inb_nat_t hi, bt, (RowsOk_val _ b1 _).2, jobT, add1 (i := i) (by omega)]
      cases hr : rowsOk (std.rsv 2 a (i : Int) 5)
      · rfl
      · have hs := saV_vals (std.rint a (i : Int) 2) hv hb
        simp only [not_true', bf, StateAt_im cells hc h hh, hF]
        rw [std_vlen, seen_im hs _ _ _ _ _ _ _ _ hr b1 _ _ N (by omega), Bool.true_and]
        simp only [add1 (i := i) (show i ≤ 4611686018427387904 by omega)]
    · simp only [impl_DuelTrue_l0, lt_nat_f (Nat.le_refl _), bf]
  rw [lp, DuelOver_im c m a h ha1]
  cases allB (jobT cells h a) a.length
  · rfl
  rw [bt, Bool.true_and]
  cases allB (fun i => std.eq (std.rint a (i : Int) 0) 3) a.length
  · rfl
  simp only [not_true', bf, bt, Values_im c m hm, StateAt_im cells hc h hh, (l7Ints_val _ _ (valsV_len c m hm) _).2]
theorem DuelTrue_true (cells : List Int) (c : Int) (m : List (List Int)) (a h : List (List C)) (f0 : FitArr cx (.ints 3 .i64 cells)) (f1 : IntKind.i64.min ≤ c ∧ c ≤ IntKind.i64.max) (f2 : FitArr cx (.vecs 354 3 m)) (f3 : FitArr cx (.rows 285 a)) (f4 : FitArr cx (.rows 195 h)) (k : Bool → R) :
    laws_FnExactDuelTrue std cells c m a h k = k true := by
  obtain ⟨v, v1, v2, v3⟩ := szDuel_v c m a h f2.1 f3 f4 1048576 (by omega) (by omega)
  unfold laws_FnExactDuelTrue laws_FnExactDuelTrue_f
  by_cases hl : 1048576 < cells.length
  · have e : std.lt 1048576 (std.ilen cells) = true := by rw [std_lt, std_ilen]; exact decide_eq_true (by omega)
    simp only [e, bt]
  have e : std.lt 1048576 (std.ilen cells) = false := by rw [std_lt, std_ilen]; exact decide_eq_false (by omega)
  simp only [e, bf, v3]
  by_cases hc : v < 0
  · simp only [lt0_t hc, bt]
  obtain ⟨b1, b2, b3⟩ := v2 (by omega)
  have hl' : cells.length ≤ 1048576 := by omega
  have c2 := bJobRunS_n _ b2
  have c3 := bWroteS_n _ b3
  simp only [lt0_f hc, bf, toIntS_v cells hl', toDuel_v c m a h b1 (fun r hr => (f2.2 r hr).1) b2 b3, DuelTrue_sp cells hl' c m b1 _ _ c2 c3, DuelTrue_im cells hl' c m b1 _ _ c2 c3, bsame, eqIntS_r cells hl', eqDuel_r c m _ _ b1 c2 c3, not_true']
end X
