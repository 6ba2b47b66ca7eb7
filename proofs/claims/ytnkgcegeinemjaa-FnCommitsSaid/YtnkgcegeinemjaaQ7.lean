/- Models of the functions, or plain laws about them; each theorem states its own conditions. -/
import Derived.Test.YtnkgcegeinemjaaQ6
set_option linter.unusedVariables false
set_option linter.unusedSimpArgs false
open Go.Proofs
namespace X
open PM Go

/-! ## RowsOk -/
def rowOk (l : List (List Int)) (i : Nat) : Bool := cellB (fld l i 0) && valB (fld l i 1)
def rowsOk (l : List (List Int)) : Bool := decide ((l.length : Int) ≤ 300) && allB (rowOk l) l.length
theorem RowsOk_l1 (l : List (List Int)) (hb : l.length ≤ 2147483648) (kret : Bool → R) (kx : Unit → R) (N : Nat) (hN : l.length < N) :
    spec_RowsOk_l0 std (spec_l3Val std) (spec_l3Cell std) N l 0 kret kx = bif allB (rowOk l) l.length then kx () else kret false := by
  refine loop_all0 (F := fun n i => spec_RowsOk_l0 std (spec_l3Val std) (spec_l3Cell std) n l i kret kx) hN (fun n i hi => ?_) (fun n => ?_)
  · simp only [spec_RowsOk_l0, std_vlen, lt_nat_t hi, inb_nat_t hi, cond_true, vget_nat, val_val, cell_val, bif_not, bif_and, add1 (i := i) (by omega), rowOk]
  · simp only [spec_RowsOk_l0, std_vlen, lt_nat_f (Nat.le_refl _), cond_false]
theorem RowsOk_l2 (l m : List (List Int)) (hb : l.length ≤ 2147483648) (kret : Bool → R) (kx : List (List Int) → R) (N : Nat) (hN : l.length < N) :
    impl_RowsOk_l0 std (impl_isValue std) (impl_isCell std) N m l l.length 0 kret kx = bif allB (rowOk l) l.length then kx m else kret false := by
  refine loop_all0 (F := fun n i => impl_RowsOk_l0 std (impl_isValue std) (impl_isCell std) n m l l.length i kret kx) hN (fun n i hi => ?_) (fun n => ?_)
  · simp only [impl_RowsOk_l0, std_vlen, lt_nat_t hi, inb_nat_t hi, cond_true, vget_nat, val_val', cell_val', bif_not, bif_and, add1 (i := i) (by omega), rowOk]
  · simp only [impl_RowsOk_l0, lt_nat_f (Nat.le_refl _), cond_false]
theorem RowsOk_val (l : List (List Int)) (hb : l.length ≤ 2147483648) (k : Bool → R) : spec_RowsOk std l k = k (rowsOk l) ∧ impl_RowsOk std l k = k (rowsOk l) := by
  unfold spec_RowsOk spec_RowsOk_f impl_RowsOk impl_RowsOk_f rowsOk
  generalize hN : std.fuel = N
  have hN : 4294967296 = N := hN
  have e : std.lt 300 (l.length : Int) = !decide ((l.length : Int) ≤ 300) := by
    rw [std_lt]
    by_cases h : (l.length : Int) ≤ 300 <;> simp [h] <;> omega
  simp only [std_vlen, RowsOk_l1 l hb _ _ N (by omega), RowsOk_l2 l l hb _ _ N (by omega), e, std_le]
  cases decide ((l.length : Int) ≤ 300) <;> cases allB (rowOk l) l.length <;> exact ⟨rfl, rfl⟩
theorem rowsOk_spec {l : List (List Int)} (h : rowsOk l = true) : l.length ≤ 300 ∧ ∀ i, i < l.length → (0 ≤ fld l i 0 ∧ fld l i 0 ≤ 7) ∧ (0 ≤ fld l i 1 ∧ fld l i 1 ≤ 65535) := by
  unfold rowsOk at h
  rw [Bool.and_eq_true] at h
  refine ⟨by have := of_decide_eq_true h.1; omega, fun i hi => ?_⟩
  have := (allB_iff.1 h.2) i hi
  unfold rowOk at this
  rw [Bool.and_eq_true] at this
  exact ⟨of_decide_eq_true this.1, of_decide_eq_true this.2⟩

/-! ## CommitOk -/
def nth0 (l : List Int) (i : Nat) : Int := l.getD i 0
theorem iget_nat (l : List Int) (i : Nat) : std.iget l (i : Int) = nth0 l i := rfl
def riseOk (l : List Int) (i : Nat) : Bool := cellB (nth0 l i) && (bif decide (0 < i) then !decide (nth0 l i ≤ nth0 l (i - 1)) else true)
theorem lt0_nat (i : Nat) : std.lt 0 (i : Int) = decide (0 < i) := by rw [std_lt]; congr 1; apply propext; omega
theorem bif_not' {α : Type} (a : Bool) (x y : α) : (bif !a then x else y) = bif a then y else x := by cases a <;> rfl
theorem bif_in {α : Type} (a b : Bool) (x y : α) : (bif a then (bif b then y else x) else x) = bif (bif a then !b else true) then x else y := by cases a <;> cases b <;> rfl
theorem Rising_l (l : List Int) (hb : l.length ≤ 2147483648) (kret : Bool → R) (kx : Unit → R) (N : Nat) (hN : l.length < N) :
    spec_l10Rising_l0 std (spec_l3Cell std) N l 0 kret kx = bif allB (riseOk l) l.length then kx () else kret false := by
  refine loop_all0 (F := fun n i => spec_l10Rising_l0 std (spec_l3Cell std) n l i kret kx) hN (fun n i hi => ?_) (fun n => ?_)
  · simp only [spec_l10Rising_l0, std_ilen, lt_nat_t hi, inb_nat_t hi, cond_true, iget_nat, cell_val, bif_not, lt0_nat, add1 (i := i) (by omega), riseOk]
    by_cases h0 : 0 < i
    · have e := pred_nat h0 (by omega)
      simp only [e, inb_nat_t (show i - 1 < l.length by omega), cond_true, iget_nat, std_le, h0, decide_true]
      cases cellB (nth0 l i) <;> cases decide (nth0 l i ≤ nth0 l (i - 1)) <;> rfl
    · simp only [h0, decide_false, cond_false]
      cases cellB (nth0 l i) <;> rfl
  · simp only [spec_l10Rising_l0, std_ilen, lt_nat_f (Nat.le_refl _), cond_false]
def risingB (l : List Int) : Bool := allB (riseOk l) l.length
theorem Rising_val (l : List Int) (hb : l.length ≤ 2147483648) (k : Bool → R) : spec_l10Rising std l k = k (risingB l) := by
  unfold spec_l10Rising spec_l10Rising_f risingB
  generalize hN : std.fuel = N
  have hN : 4294967296 = N := hN
  simp only [Rising_l l hb _ _ N (by omega)]
  cases allB (riseOk l) l.length <;> rfl
def phaseLen (p : Int) (puts : List (List Int)) (reads : List Int) : Int :=
  bif p == 1 then puts.length else bif p == 4 then puts.length else bif p == 5 then puts.length else bif p == 7 then puts.length else bif p == 3 then reads.length else 1
theorem Len_val (a b p c d : Int) (puts : List (List Int)) (reads : List Int) (k : Int → R) : spec_l10Len std a b p c d puts reads k = k (phaseLen p puts reads) ∧ impl_Commit_steps std a b p c d puts reads k = k (phaseLen p puts reads) := by
  simp only [spec_l10Len, spec_l10Len_f, impl_Commit_steps, impl_Commit_steps_f, std_eq, std_vlen, std_ilen, phaseLen]
  cases (p == 1) <;> cases (p == 4) <;> cases (p == 5) <;> cases (p == 7) <;> cases (p == 3) <;> exact ⟨rfl, rfl⟩
theorem phaseLen_le (p : Int) (puts : List (List Int)) (reads : List Int) : 0 ≤ phaseLen p puts reads ∧ phaseLen p puts reads ≤ puts.length + reads.length + 1 := by
  unfold phaseLen
  cases (p == 1) <;> cases (p == 4) <;> cases (p == 5) <;> cases (p == 7) <;> cases (p == 3) <;> simp only [cond_true, cond_false] <;> omega
/-- The rows' cells rise (from the second on). -/
def upOk (l : List (List Int)) (i : Nat) : Bool := !decide (fld l (i + 1) 0 ≤ fld l i 0)
theorem CommitOk_l1 (c1 : spec_l1In_T) (c2 : spec_RowsOk_T) (c3 : spec_l10Rising_T) (c4 : spec_l10Len_T) (a b p t d : Int) (l : List (List Int)) (rd : List Int) (hb : l.length ≤ 2147483648) (kret : Bool → R) (kx : Int → Int → Int → Int → Int → List (List Int) → List Int → R) (N : Nat) (hN : l.length < N) :
    spec_CommitOk_l0 std c1 c2 c3 c4 N 1 a b p t d l rd kret kx = bif allB (upOk l) (l.length - 1) then kx a b p t d l rd else kret false := by
  by_cases h0 : l.length = 0
  · obtain ⟨N, rfl⟩ : ∃ M, N = M + 1 := ⟨N - 1, by omega⟩
    simp only [spec_CommitOk_l0, std_vlen, h0]
    rfl
  · have key : ∀ m N i : Nat, i + m = l.length - 1 → m < N → spec_CommitOk_l0 std c1 c2 c3 c4 N ((i + 1 : Nat) : Int) a b p t d l rd kret kx = bif allF (upOk l) m i then kx a b p t d l rd else kret false := by
      intro m
      induction m with
      | zero =>
        intro N i hi hn
        obtain ⟨N, rfl⟩ : ∃ M, N = M + 1 := ⟨N - 1, by omega⟩
        simp only [spec_CommitOk_l0, std_vlen, lt_nat_f (show l.length ≤ i + 1 by omega), cond_false]
        rfl
      | succ m ih =>
        intro N i hi hn
        obtain ⟨N, rfl⟩ : ∃ M, N = M + 1 := ⟨N - 1, by omega⟩
        have e := pred_nat (show 0 < i + 1 by omega) (by omega)
        rw [show allF (upOk l) (m + 1) i = bif upOk l i then allF (upOk l) m (i + 1) else false from rfl]
        simp only [spec_CommitOk_l0, std_vlen, lt_nat_t (show i + 1 < l.length by omega), inb_nat_t (show i + 1 < l.length by omega), e, Nat.add_sub_cancel, inb_nat_t (show i < l.length by omega), cond_true, vget_nat, std_le, add1 (i := i + 1) (by omega), ih N (i + 1) (by omega) (by omega), upOk]
        cases decide (fld l (i + 1) 0 ≤ fld l i 0) <;> rfl
    exact key (l.length - 1) N 0 (by omega) (by omega)
theorem CommitOk_l2 (c1 : impl_within_T) (c2 : impl_isCell_T) (c3 : impl_isOwner_T) (c4 : impl_RowsOk_T) (c5 : impl_Commit_steps_T) (a b p t d : Int) (l : List (List Int)) (rd : List Int) (hb : l.length ≤ 2147483648) (kret : Bool → R) (kx : Int → Int → Int → Int → Int → List (List Int) → List Int → R) (N : Nat) (hN : l.length < N) :
    impl_CommitOk_l0 std c1 c2 c3 c4 c5 N 1 a b p t d l rd kret kx = bif allB (upOk l) (l.length - 1) then kx a b p t d l rd else kret false := by
  by_cases h0 : l.length = 0
  · obtain ⟨N, rfl⟩ : ∃ M, N = M + 1 := ⟨N - 1, by omega⟩
    simp only [impl_CommitOk_l0, std_vlen, h0]
    rfl
  · have key : ∀ m N i : Nat, i + m = l.length - 1 → m < N → impl_CommitOk_l0 std c1 c2 c3 c4 c5 N ((i + 1 : Nat) : Int) a b p t d l rd kret kx = bif allF (upOk l) m i then kx a b p t d l rd else kret false := by
      intro m
      induction m with
      | zero =>
        intro N i hi hn
        obtain ⟨N, rfl⟩ : ∃ M, N = M + 1 := ⟨N - 1, by omega⟩
        simp only [impl_CommitOk_l0, std_vlen, lt_nat_f (show l.length ≤ i + 1 by omega), cond_false]
        rfl
      | succ m ih =>
        intro N i hi hn
        obtain ⟨N, rfl⟩ : ∃ M, N = M + 1 := ⟨N - 1, by omega⟩
        have e := pred_nat (show 0 < i + 1 by omega) (by omega)
        rw [show allF (upOk l) (m + 1) i = bif upOk l i then allF (upOk l) m (i + 1) else false from rfl]
        simp only [impl_CommitOk_l0, std_vlen, lt_nat_t (show i + 1 < l.length by omega), inb_nat_t (show i + 1 < l.length by omega), e, Nat.add_sub_cancel, inb_nat_t (show i < l.length by omega), cond_true, vget_nat, std_le, add1 (i := i + 1) (by omega), ih N (i + 1) (by omega) (by omega), upOk]
        cases decide (fld l (i + 1) 0 ≤ fld l i 0) <;> rfl
    exact key (l.length - 1) N 0 (by omega) (by omega)
theorem CommitOk_l3 (c1 : impl_within_T) (c3 : impl_isOwner_T) (c4 : impl_RowsOk_T) (c5 : impl_Commit_steps_T) (a b p t d : Int) (l : List (List Int)) (rd : List Int) (hb : rd.length ≤ 2147483648) (kret : Bool → R) (kx : Int → Int → Int → Int → Int → List (List Int) → List Int → R) (N : Nat) (hN : rd.length < N) :
    impl_CommitOk_l2 std c1 (impl_isCell std) c3 c4 c5 N rd rd.length 0 a b p t d l rd kret kx = bif risingB rd then kx a b p t d l rd else kret false := by
  refine loop_all0 (F := fun n i => impl_CommitOk_l2 std c1 (impl_isCell std) c3 c4 c5 n rd rd.length i a b p t d l rd kret kx) hN (fun n i hi => ?_) (fun n => ?_)
  · simp only [impl_CommitOk_l2, std_ilen, lt_nat_t hi, inb_nat_t hi, cond_true, iget_nat, cell_val', bif_not, lt0_nat, add1 (i := i) (by omega), riseOk]
    by_cases h0 : 0 < i
    · have e := pred_nat h0 (by omega)
      simp only [e, inb_nat_t (show i - 1 < rd.length by omega), cond_true, iget_nat, std_le, h0, decide_true]
      cases cellB (nth0 rd i) <;> cases decide (nth0 rd i ≤ nth0 rd (i - 1)) <;> rfl
    · simp only [h0, decide_false, cond_false]
      cases cellB (nth0 rd i) <;> rfl
  · simp only [impl_CommitOk_l2, lt_nat_f (Nat.le_refl _), cond_false]
def commitOk (who rv p t wv : Int) (l : List (List Int)) (rd : List Int) : Bool :=
  inB who 1 99 && (inB rv 0 1000000 && (inB wv 0 1000000 && (inB p 1 8 && (rowsOk l && (risingB rd && (allB (upOk l) (l.length - 1) && inB t 0 (phaseLen p l rd - 1)))))))
theorem owner_val (x : Int) (k : Bool → R) : impl_isOwner std x k = k (inB x 1 99) := l1In_val x 1 99 k
theorem CommitOk_val (who rv p t wv : Int) (l : List (List Int)) (rd : List Int) (hb : l.length ≤ 2147483648) (hr : rd.length ≤ 2147483648) (k : Bool → R) :
    spec_CommitOk std who rv p t wv l rd k = k (commitOk who rv p t wv l rd) ∧ impl_CommitOk std who rv p t wv l rd k = k (commitOk who rv p t wv l rd) := by
  have hp := phaseLen_le p l rd
  have w : IntKind.i64.wrap (phaseLen p l rd - 1) = phaseLen p l rd - 1 := i64_wrap (by omega) (by omega)
  unfold spec_CommitOk spec_CommitOk_f impl_CommitOk impl_CommitOk_f commitOk
  generalize hN : std.fuel = N
  have hN : 4294967296 = N := hN
  simp only [in_val, in_val', owner_val, (RowsOk_val l hb _).1, (RowsOk_val l hb _).2, Rising_val rd hr, CommitOk_l1 _ _ _ _ _ _ _ _ _ l rd hb _ _ N (by omega), CommitOk_l2 _ _ _ _ _ _ _ _ _ _ l rd hb _ _ N (by omega),
    std_ilen, CommitOk_l3 _ _ _ _ _ _ _ _ _ l rd hr _ _ N (by omega), (Len_val _ _ _ _ _ _ _ _).1, (Len_val _ _ _ _ _ _ _ _).2, std_sub, w, bif_not]
  cases inB who 1 99 <;> cases inB rv 0 1000000 <;> cases inB wv 0 1000000 <;> cases inB p 1 8 <;> cases rowsOk l <;> cases risingB rd <;> cases allB (upOk l) (l.length - 1) <;> exact ⟨rfl, rfl⟩
theorem szIntS_eq (a : List Int) (left : Int) (h0 : 0 ≤ left) (h1 : left ≤ 1048576) (hb : a.length ≤ maxLen) (k : Int → R) :
    laws_szIntS std a left k = k (if left - a.length < 0 then -1 else left - a.length) := by
  have hb : a.length ≤ 9223372036854775807 := hb
  have w : IntKind.i64.wrap (left - a.length) = left - a.length := i64_wrap (by omega) (by omega)
  simp only [laws_szIntS, laws_szIntS_f, std_sub, std_ilen, w, std_lt]
  by_cases h : left - (a.length : Int) < 0 <;> simp only [h, decide_true, decide_false, cond_true, cond_false, if_true, if_false]
theorem szCommit_small (a b p t d : Int) (l : List (List Int)) (rd : List Int) (h : l.length + rd.length ≤ 1048576) (k : Int → R) : laws_szCommit std a b p t d l rd 1048576 k = k (1048576 - l.length - rd.length) := by
  have m1 : l.length ≤ maxLen := Nat.le_trans (show l.length ≤ 1048576 by omega) (by decide)
  have m2 : rd.length ≤ maxLen := Nat.le_trans (show rd.length ≤ 1048576 by omega) (by decide)
  simp only [laws_szCommit, laws_szCommit_f]
  rw [szRowS_eq l 1048576 (by omega) (by omega) m1, if_neg (by omega)]
  have e0 : std.lt (1048576 - (l.length : Int)) 0 = false := by rw [std_lt]; exact decide_eq_false (by omega)
  rw [e0, cond_false, szIntS_eq rd _ (by omega) (by omega) m2, if_neg (by omega)]
  have e1 : std.lt (1048576 - (l.length : Int) - (rd.length : Int)) 0 = false := by rw [std_lt]; exact decide_eq_false (by omega)
  rw [e1, cond_false]
theorem szCommit_big (a b p t d : Int) (l : List (List Int)) (rd : List Int) (h : ¬ l.length + rd.length ≤ 1048576) (m1 : l.length ≤ maxLen) (m2 : rd.length ≤ maxLen) (k : Int → R) : laws_szCommit std a b p t d l rd 1048576 k = k (-1) := by
  simp only [laws_szCommit, laws_szCommit_f]
  rw [szRowS_eq l 1048576 (by omega) (by omega) m1]
  by_cases h1 : 1048576 - (l.length : Int) < 0
  · rw [if_pos h1]; rfl
  · rw [if_neg h1]
    have e0 : std.lt (1048576 - (l.length : Int)) 0 = false := by rw [std_lt]; exact decide_eq_false (by omega)
    rw [e0, cond_false, szIntS_eq rd _ (by omega) (by omega) m2, if_pos (by omega)]; rfl
theorem neg1 : std.lt (-1) 0 = true := rfl
theorem sz_pos (l : List (List Int)) (rd : List Int) (h : l.length + rd.length ≤ 1048576) : std.lt (1048576 - (l.length : Int) - (rd.length : Int)) 0 = false := by rw [std_lt]; exact decide_eq_false (by omega)
theorem toCommit_eq (a b p t d : Int) (l : List (List Int)) (rd : List Int) (h1 : l.length ≤ 2147483648) (hw : ∀ r ∈ l, r.length = 2) (h2 : rd.length ≤ 2147483648) (k : Int → Int → Int → Int → Int → List (List Int) → List Int → R) :
    laws_toCommit std a b p t d l rd k = k a b p t d l rd := by
  simp only [laws_toCommit, laws_toCommit_f, toRowS_eq l h1 hw, toIntS_eq rd h2]
theorem eqCommit1 (a b p t d : Int) (l : List (List Int)) (rd : List Int) (h1 : l.length ≤ 2147483648) (h2 : rd.length ≤ 2147483648) (k : Bool → R) : laws_eqCommit std a b p t d l rd a b p t d l rd k = k true := by
  simp only [laws_eqCommit, laws_eqCommit_f, eq_self, not_true', cond_false, eqRowS1 l h1, eqInt1 rd h2]
theorem CommitOk_true (a b p t d : Int) (l : List (List Int)) (rd : List Int) (b1 : IntKind.i64.min ≤ a ∧ a ≤ IntKind.i64.max) (b2 : IntKind.i64.min ≤ b ∧ b ≤ IntKind.i64.max) (b3 : IntKind.i64.min ≤ p ∧ p ≤ IntKind.i64.max) (b4 : IntKind.i64.min ≤ t ∧ t ≤ IntKind.i64.max) (b5 : IntKind.i64.min ≤ d ∧ d ≤ IntKind.i64.max)
    (f1 : FitArr cx (.vecs 139 2 l)) (f2 : FitArr cx (.ints 3 .i64 rd)) (k : Bool → R) : laws_FnExactCommitOk std a b p t d l rd k = k true := by
  unfold laws_FnExactCommitOk laws_FnExactCommitOk_f
  by_cases h : l.length + rd.length ≤ 1048576
  · have h1 : l.length ≤ 2147483648 := by omega
    have h2 : rd.length ≤ 2147483648 := by omega
    have hw : ∀ r ∈ l, r.length = 2 := fun r hr => (f1.2 r hr).1
    simp only [szCommit_small _ _ _ _ _ l rd h, sz_pos l rd h, cond_false, toCommit_eq _ _ _ _ _ l rd h1 hw h2, (CommitOk_val _ _ _ _ _ l rd h1 h2 _).1, (CommitOk_val _ _ _ _ _ l rd h1 h2 _).2, beq_self, eqCommit1 _ _ _ _ _ l rd h1 h2, not_true']
  · simp only [szCommit_big _ _ _ _ _ l rd h f1.1 f2.1, neg1, cond_true]
theorem CommitLeft_eq (a b p t d : Int) (l : List (List Int)) (rd : List Int) (h1 : l.length ≤ 2147483648) (h2 : rd.length ≤ 2147483648) : ∃ r, ∀ k : Int → R, spec_CommitLeft std a b p t d l rd k = k r ∧ impl_CommitLeft std a b p t d l rd k = k r := by
  simp only [spec_CommitLeft, spec_CommitLeft_f, impl_CommitLeft, impl_CommitLeft_f, (CommitOk_val _ _ _ _ _ l rd h1 h2 _).1, (CommitOk_val _ _ _ _ _ l rd h1 h2 _).2, bif_k]
  exact ⟨_, fun k => ⟨rfl, rfl⟩⟩
theorem CommitLeft_true (a b p t d : Int) (l : List (List Int)) (rd : List Int) (b1 : IntKind.i64.min ≤ a ∧ a ≤ IntKind.i64.max) (b2 : IntKind.i64.min ≤ b ∧ b ≤ IntKind.i64.max) (b3 : IntKind.i64.min ≤ p ∧ p ≤ IntKind.i64.max) (b4 : IntKind.i64.min ≤ t ∧ t ≤ IntKind.i64.max) (b5 : IntKind.i64.min ≤ d ∧ d ≤ IntKind.i64.max)
    (f1 : FitArr cx (.vecs 139 2 l)) (f2 : FitArr cx (.ints 3 .i64 rd)) (k : Bool → R) : laws_FnExactCommitLeft std a b p t d l rd k = k true := by
  unfold laws_FnExactCommitLeft laws_FnExactCommitLeft_f
  by_cases h : l.length + rd.length ≤ 1048576
  · have h1 : l.length ≤ 2147483648 := by omega
    have h2 : rd.length ≤ 2147483648 := by omega
    have hw : ∀ r ∈ l, r.length = 2 := fun r hr => (f1.2 r hr).1
    obtain ⟨r, hr⟩ := CommitLeft_eq a b p t d l rd h1 h2
    simp only [szCommit_small _ _ _ _ _ l rd h, sz_pos l rd h, cond_false, toCommit_eq _ _ _ _ _ l rd h1 hw h2, (hr _).1, (hr _).2, eq_self, eqCommit1 _ _ _ _ _ l rd h1 h2, not_true']
  · simp only [szCommit_big _ _ _ _ _ l rd h f1.1 f2.1, neg1, cond_true]
end X
