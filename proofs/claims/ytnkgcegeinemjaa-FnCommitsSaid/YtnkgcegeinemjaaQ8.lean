/- Models of the functions, or plain laws about them; each theorem states its own conditions. -/
import Derived.Test.YtnkgcegeinemjaaQ7
set_option linter.unusedVariables false
set_option linter.unusedSimpArgs false
open Go.Proofs
namespace X
open PM Go

/-! ## Last, Net, CellsOf -/
def lastF (l : List (List Int)) (c : Int) : Nat → Option Nat
  | 0 => none
  | m + 1 => bif fld l m 0 == c then some m else lastF l c m
def gotL {α : Type} (o : Option Nat) (kr : Nat → α) (kx : α) : α := match o with
  | some j => kr j
  | none => kx
theorem pred_int (m : Nat) : ((m + 1 : Nat) : Int) - 1 = (m : Int) := by omega
theorem sub_int {m : Nat} (h : m ≤ 2147483648) : std.sub .i64 (m : Int) 1 = (m : Int) - 1 := by rw [std_sub, i64_wrap (by omega) (by omega)]
theorem le0_nat (m : Nat) : std.le 0 (m : Int) = true := by rw [std_le]; exact decide_eq_true (by omega)
theorem Last_l1 (cc : spec_RowsOk_T) (l : List (List Int)) (hb : l.length ≤ 2147483648) (c : Int) (kret : Int → Bool → R) (kx : Unit → R) : ∀ (m N : Nat), m ≤ l.length → m < N →
    spec_Last_l0 std cc N l c ((m : Int) - 1) kret kx = gotL (lastF l c m) (fun j => kret (fld l j 1) true) (kx ())
  | 0, N + 1, h, hn => by
    simp only [spec_Last_l0, show std.le 0 (((0 : Nat) : Int) - 1) = false from rfl, cond_false, lastF, gotL]
  | m + 1, N + 1, h, hn => by
    have ih := Last_l1 cc l hb c kret kx m N (by omega) (by omega)
    rw [pred_int]
    simp only [spec_Last_l0, std_vlen, le0_nat, inb_nat_t (show m < l.length by omega), cond_true, vget_nat, std_eq, sub_int (show m ≤ 2147483648 by omega), ih, lastF]
    cases (fld l m 0 == c) <;> rfl
theorem Last_l2 (cc : impl_RowsOk_T) (l : List (List Int)) (hb : l.length ≤ 2147483648) (c : Int) (kret : Int → Bool → R) (kx : Unit → R) : ∀ (m N : Nat), m ≤ l.length → m < N →
    impl_Last_l0 std cc N l c ((m : Int) - 1) kret kx = gotL (lastF l c m) (fun j => kret (fld l j 1) true) (kx ())
  | 0, N + 1, h, hn => by
    simp only [impl_Last_l0, show std.le 0 (((0 : Nat) : Int) - 1) = false from rfl, cond_false, lastF, gotL]
  | m + 1, N + 1, h, hn => by
    have ih := Last_l2 cc l hb c kret kx m N (by omega) (by omega)
    rw [pred_int]
    simp only [impl_Last_l0, std_vlen, le0_nat, inb_nat_t (show m < l.length by omega), cond_true, vget_nat, std_eq, sub_int (show m ≤ 2147483648 by omega), ih, lastF]
    cases (fld l m 0 == c) <;> rfl
def last (l : List (List Int)) (c : Int) : Option Int := bif rowsOk l then (lastF l c l.length).map (fun j => fld l j 1) else none
theorem Last_val (l : List (List Int)) (hb : l.length ≤ 2147483648) (c : Int) (k : Int → Bool → R) :
    spec_Last std l c k = k ((last l c).getD 0) (last l c).isSome ∧ impl_Last std l c k = k ((last l c).getD 0) (last l c).isSome := by
  unfold spec_Last spec_Last_f impl_Last impl_Last_f last
  generalize hN : std.fuel = N
  have hN : 4294967296 = N := hN
  simp only [std_vlen, (RowsOk_val l hb _).1, (RowsOk_val l hb _).2, bif_not, sub_int hb, Last_l1 _ l hb c _ _ l.length N (Nat.le_refl _) (by omega), Last_l2 _ l hb c _ _ l.length N (Nat.le_refl _) (by omega)]
  cases rowsOk l
  · exact ⟨rfl, rfl⟩
  · cases lastF l c l.length <;> exact ⟨rfl, rfl⟩
def netStep (l : List (List Int)) (i : Nat) (o : List (List Int)) : List (List Int) := match last l (i : Int) with
  | some v => o ++ [[(i : Int), v]]
  | none => o
def net (l : List (List Int)) : List (List Int) := foldB (netStep l) 8 []
theorem netStep_inv (l : List (List Int)) {i : Nat} {o : List (List Int)} (h : o.length ≤ i ∧ ∀ r ∈ o, r.length = 2) : (netStep l i o).length ≤ i + 1 ∧ ∀ r ∈ netStep l i o, r.length = 2 := by
  unfold netStep
  cases last l (i : Int) with
  | none => exact ⟨Nat.le_succ_of_le h.1, h.2⟩
  | some v =>
    refine ⟨by rw [List.length_append, List.length_singleton]; omega, fun r hr => ?_⟩
    rcases List.mem_append.1 hr with hr | hr
    · exact h.2 r hr
    · rw [List.mem_singleton] at hr; subst hr; rfl
theorem net_inv (l : List (List Int)) : (net l).length ≤ 8 ∧ ∀ r ∈ net l, r.length = 2 :=
  foldB_inv (f := netStep l) (fun i o => o.length ≤ i ∧ ∀ r ∈ o, r.length = 2) ⟨Nat.le_refl _, fun _ h => by cases h⟩ fun i o _ h => netStep_inv l h
theorem room_small {a b : Nat} (h : a + b ≤ 2147483648) : std.room (a : Int) (b : Int) = true := by rw [std_room]; exact decide_eq_true (by omega)
theorem Net_l1 (l : List (List Int)) (hb : l.length ≤ 2147483648) (kx : List (List Int) → R) (N : Nat) (hN : 8 < N) : spec_Net_l0 std (spec_Last std) N l 0 [] kx = kx (net l) := by
  refine loop_fold0 (F := fun n i o => spec_Net_l0 std (spec_Last std) n l i o kx) (f := netStep l) (len := 8) (fun i o => o.length ≤ i ∧ ∀ r ∈ o, r.length = 2) hN ⟨Nat.le_refl _, fun _ h => by cases h⟩ (fun n i o hi hv => ?_) (fun i o _ h => netStep_inv l h) (fun n o hv => ?_)
  · have e1 : std.lt (i : Int) 8 = true := lt_nat_t (n := 8) hi
    simp only [spec_Net_l0, e1, cond_true, (Last_val l hb (i : Int) _).1, std_vlen, room_small (a := o.length) (b := [[(i : Int), (last l (i : Int)).getD 0]].length) (by simp; omega), add1 (i := i) (by omega), std_vapp, netStep]
    cases last l (i : Int) <;> rfl
  · have e1 : std.lt ((8 : Nat) : Int) 8 = false := lt_nat_f (n := 8) (Nat.le_refl _)
    simp only [spec_Net_l0, e1, cond_false]
theorem Net_l2 (cc : impl_RowsOk_T) (l : List (List Int)) (hb : l.length ≤ 2147483648) (kx : List (List Int) → R) (N : Nat) (hN : 8 < N) : impl_Net_l0 std cc (impl_Last std) N l 0 [] kx = kx (net l) := by
  refine loop_fold0 (F := fun n i o => impl_Net_l0 std cc (impl_Last std) n l i o kx) (f := netStep l) (len := 8) (fun i o => o.length ≤ i ∧ ∀ r ∈ o, r.length = 2) hN ⟨Nat.le_refl _, fun _ h => by cases h⟩ (fun n i o hi hv => ?_) (fun i o _ h => netStep_inv l h) (fun n o hv => ?_)
  · have e1 : std.lt (i : Int) 8 = true := lt_nat_t (n := 8) hi
    simp only [impl_Net_l0, e1, cond_true, (Last_val l hb (i : Int) _).2, std_vlen, room_small (a := o.length) (b := [[(i : Int), (last l (i : Int)).getD 0]].length) (by simp; omega), add1 (i := i) (by omega), std_vapp, netStep]
    cases last l (i : Int) <;> rfl
  · have e1 : std.lt ((8 : Nat) : Int) 8 = false := lt_nat_f (n := 8) (Nat.le_refl _)
    simp only [impl_Net_l0, e1, cond_false]
theorem net_bad {l : List (List Int)} (h : rowsOk l = false) : net l = [] := by
  have e : ∀ c : Int, last l c = none := fun c => by unfold last; rw [h]; rfl
  unfold net
  refine foldB_inv (f := netStep l) (len := 8) (s := []) (fun _ o => o = []) rfl fun i o _ ho => ?_
  unfold netStep
  rw [e]; exact ho
theorem Net_val (l : List (List Int)) (hb : l.length ≤ 2147483648) (k : List (List Int) → R) : spec_Net std l k = k (net l) ∧ impl_Net std l k = k (net l) := by
  unfold spec_Net spec_Net_f impl_Net impl_Net_f
  generalize hN : std.fuel = N
  have hN : 4294967296 = N := hN
  simp only [(RowsOk_val l hb _).2, bif_not, Net_l1 l hb _ N (by omega), Net_l2 _ l hb _ N (by omega), true_and]
  cases h : rowsOk l
  · rw [net_bad h]; rfl
  · rfl
def cellsF (n : List (List Int)) (i : Nat) (o : List Int) : List Int := o ++ [fld n i 0]
def cellsOf (n : List (List Int)) : List Int := foldB (cellsF n) n.length []
theorem cellsOf_length (n : List (List Int)) : (cellsOf n).length = n.length :=
  foldB_inv (f := cellsF n) (fun i o => o.length = i) rfl fun i o _ h => by unfold cellsF; rw [List.length_append, List.length_singleton, h]
theorem Cells_l1 (cc : spec_Net_T) (n : List (List Int)) (hb : n.length ≤ 1048576) (kx : List Int → R) (N : Nat) (hN : n.length < N) : spec_CellsOf_l0 std cc N 0 [] n kx = kx (cellsOf n) := by
  refine loop_fold0 (F := fun m i o => spec_CellsOf_l0 std cc m i o n kx) (f := cellsF n) (len := n.length) (fun i o => o.length = i) hN rfl (fun m i o hi hv => ?_) (fun i o _ h => by unfold cellsF; rw [List.length_append, List.length_singleton, h]) (fun m o hv => ?_)
  · simp only [spec_CellsOf_l0, std_vlen, std_ilen, lt_nat_t hi, inb_nat_t hi, cond_true, vget_nat, room_small (a := o.length) (b := [fld n i 0].length) (by simp; omega), add1 (i := i) (by omega), std_iapp, cellsF]
  · simp only [spec_CellsOf_l0, std_vlen, lt_nat_f (Nat.le_refl _), cond_false]
theorem Cells_l2 (cc : impl_Net_T) (n : List (List Int)) (hb : n.length ≤ 1048576) (kx : List Int → R) (N : Nat) (hN : n.length < N) : impl_CellsOf_l0 std cc N n.length 0 [] n kx = kx (cellsOf n) := by
  refine loop_fold0 (F := fun m i o => impl_CellsOf_l0 std cc m n.length i o n kx) (f := cellsF n) (len := n.length) (fun i o => o.length = i) hN rfl (fun m i o hi hv => ?_) (fun i o _ h => by unfold cellsF; rw [List.length_append, List.length_singleton, h]) (fun m o hv => ?_)
  · simp only [impl_CellsOf_l0, std_vlen, std_ilen, lt_nat_t hi, inb_nat_t hi, cond_true, vget_nat, room_small (a := o.length) (b := [fld n i 0].length) (by simp; omega), add1 (i := i) (by omega), std_iapp, cellsF]
  · simp only [impl_CellsOf_l0, lt_nat_f (Nat.le_refl _), cond_false]
theorem CellsOf_val (l : List (List Int)) (hb : l.length ≤ 2147483648) (k : List Int → R) : spec_CellsOf std l k = k (cellsOf (net l)) ∧ impl_CellsOf std l k = k (cellsOf (net l)) := by
  have h8 := (net_inv l).1
  unfold spec_CellsOf spec_CellsOf_f impl_CellsOf impl_CellsOf_f
  generalize hN : std.fuel = N
  have hN : 4294967296 = N := hN
  simp only [(Net_val l hb _).1, (Net_val l hb _).2, std_vlen, Cells_l1 _ (net l) (by omega) _ N (by omega), Cells_l2 _ (net l) (by omega) _ N (by omega), and_self]

/-! ## CommitNew -/
structure Cm where
  who : Int
  rv : Int
  ph : Int
  pos : Int
  wv : Int
  puts : List (List Int)
  reads : List Int
def Cm.k (c : Cm) {α : Type} (f : Int → Int → Int → Int → Int → List (List Int) → List Int → α) : α := f c.who c.rv c.ph c.pos c.wv c.puts c.reads
def commitNew (who rv : Int) (puts reads : List (List Int)) : Cm × Bool :=
  bif inB who 1 99 && (inB rv 0 1000000 && (rowsOk puts && rowsOk reads)) then (⟨who, rv, bif ((net puts).length : Int) == 0 then 2 else 1, 0, 0, net puts, cellsOf (net reads)⟩, true) else (⟨0, 0, 0, 0, 0, [], []⟩, false)
theorem CommitNew_val (who rv : Int) (puts reads : List (List Int)) (h1 : puts.length ≤ 2147483648) (h2 : reads.length ≤ 2147483648) (k : Int → Int → Int → Int → Int → List (List Int) → List Int → Bool → R) :
    spec_CommitNew std who rv puts reads k = (commitNew who rv puts reads).1.k k (commitNew who rv puts reads).2 ∧ impl_CommitNew std who rv puts reads k = (commitNew who rv puts reads).1.k k (commitNew who rv puts reads).2 := by
  unfold spec_CommitNew spec_CommitNew_f impl_CommitNew impl_CommitNew_f commitNew
  simp only [in_val, in_val', owner_val, (RowsOk_val puts h1 _).1, (RowsOk_val puts h1 _).2, (RowsOk_val reads h2 _).1, (RowsOk_val reads h2 _).2, (Net_val puts h1 _).1, (Net_val puts h1 _).2, (CellsOf_val reads h2 _).1, (CellsOf_val reads h2 _).2, bif_not, std_vlen, std_eq]
  cases inB who 1 99 <;> cases inB rv 0 1000000 <;> cases rowsOk puts <;> cases rowsOk reads <;> cases (((net puts).length : Int) == 0) <;> exact ⟨rfl, rfl⟩
def Cm.small (c : Cm) : Prop := c.puts.length ≤ 1048576 ∧ c.reads.length ≤ 1048576 ∧ ∀ r ∈ c.puts, r.length = 2
theorem commitNew_small (who rv : Int) (puts reads : List (List Int)) : (commitNew who rv puts reads).1.small := by
  unfold commitNew
  cases inB who 1 99 && (inB rv 0 1000000 && (rowsOk puts && rowsOk reads))
  · exact ⟨Nat.zero_le _, Nat.zero_le _, fun _ h => by cases h⟩
  · have h1 := net_inv puts
    have h2 := net_inv reads
    refine ⟨?_, ?_, h1.2⟩
    · show (net puts).length ≤ _; omega
    · show (cellsOf (net reads)).length ≤ _; rw [cellsOf_length]; omega
theorem eqCm {c : Cm} (h : c.small) (k : Bool → R) : laws_eqCommit std c.who c.rv c.ph c.pos c.wv c.puts c.reads c.who c.rv c.ph c.pos c.wv c.puts c.reads k = k true :=
  eqCommit1 _ _ _ _ _ c.puts c.reads (by have := h.1; omega) (by have := h.2.1; omega) k
theorem markCm {c : Cm} (h : c.small) (k : Int → List (List Int) → List Int → R) :
    laws_markCommit std c.who c.rv c.ph c.pos c.wv c.puts c.reads 1 k = k (1 + 2 * c.puts.length + c.reads.length) (vups 2 1 c.puts.length) (ups (1 + 2 * c.puts.length) c.reads.length) := by
  obtain ⟨h1, h2, h3⟩ := h
  simp only [laws_markCommit, laws_markCommit_f, markRowS_k c.puts 1 (by omega) h3 (by omega) (by omega)]
  rw [markIntS_eq c.reads (1 + 2 * (c.puts.length : Int)) (by omega) (by omega) (by omega)]
theorem heldCm {c : Cm} (h : c.small) (a b p t d : Int) (k : Int → R) :
    laws_heldCommit std a b p t d (vups 2 1 c.puts.length) (ups (1 + 2 * c.puts.length) c.reads.length) 1 k = k (1 + 2 * c.puts.length + c.reads.length) := by
  obtain ⟨h1, h2, h3⟩ := h
  simp only [laws_heldCommit, laws_heldCommit_f, heldRowS_k c.puts.length 1 (by omega) (by omega) (by omega)]
  have e0 : std.lt (1 + 2 * (c.puts.length : Int)) 0 = false := by rw [std_lt]; exact decide_eq_false (by omega)
  have e1 : std.lt (1 + 2 * (c.puts.length : Int) + (c.reads.length : Int)) 0 = false := by rw [std_lt]; exact decide_eq_false (by omega)
  rw [e0, cond_false, heldIntS_eq (1 + 2 * (c.puts.length : Int)) c.reads.length (by omega) (by omega) (by omega), e1, cond_false]
theorem posCm (c : Cm) : std.lt (1 + 2 * (c.puts.length : Int) + (c.reads.length : Int)) 0 = false := by rw [std_lt]; exact decide_eq_false (by omega)
theorem CommitNew_true (who rv : Int) (l m : List (List Int)) (b1 : IntKind.i64.min ≤ who ∧ who ≤ IntKind.i64.max) (b2 : IntKind.i64.min ≤ rv ∧ rv ≤ IntKind.i64.max)
    (f1 : FitArr cx (.vecs 139 2 l)) (f2 : FitArr cx (.vecs 139 2 m)) (k : Bool → R) : laws_FnExactCommitNew std who rv l m k = k true := by
  unfold laws_FnExactCommitNew laws_FnExactCommitNew_f
  rw [szRowS_eq l 1048576 (by omega) (by omega) f1.1]
  by_cases g1 : (1048576 : Int) - l.length < 0
  · simp [g1]
  · have e0 : std.lt (1048576 - (l.length : Int)) 0 = false := by rw [std_lt]; exact decide_eq_false g1
    rw [if_neg g1, e0, cond_false, szRowS_eq m _ (by omega) (by omega) f2.1]
    by_cases g2 : (1048576 : Int) - l.length - m.length < 0
    · simp [g2]
    · have h1 : l.length ≤ 2147483648 := by omega
      have h2 : m.length ≤ 2147483648 := by omega
      have hw1 : ∀ r ∈ l, r.length = 2 := fun r hr => (f1.2 r hr).1
      have hw2 : ∀ r ∈ m, r.length = 2 := fun r hr => (f2.2 r hr).1
      have e1 : std.lt (1048576 - (l.length : Int) - (m.length : Int)) 0 = false := by rw [std_lt]; exact decide_eq_false g2
      have e2 : std.lt (1 + 2 * (l.length : Int) + 2 * (m.length : Int)) 0 = false := by rw [std_lt]; exact decide_eq_false (by omega)
      have hs := commitNew_small who rv l m
      rw [if_neg g2, e1, cond_false]
      simp only [toRowS_eq l h1 hw1, toRowS_eq m h2 hw2, (CommitNew_val who rv l m h1 h2 _).1, (CommitNew_val who rv l m h1 h2 _).2, Cm.k, eqCm hs, beq_self, eq_self, not_true', cond_false, eqRowS1 l h1, eqRowS1 m h2, markRowS_k l 1 h1 hw1 (by omega) (by omega),
        markRowS_k m (1 + 2 * (l.length : Int)) h2 hw2 (by omega) (by omega), e2, markCm hs, heldCm hs, posCm]
end X
