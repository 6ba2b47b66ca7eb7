/- Models of the functions, or plain laws about them; each theorem states its own conditions. -/
import Derived.Test.YtlcgddghildedaaNTm
import Derived.Test.YtlcgddghildedaaQN1
set_option linter.unusedVariables false
set_option linter.unusedSimpArgs false
open Go.Proofs
namespace X
open PM Go
theorem foldN_id {α : Type} {g : Nat → α → α} : ∀ (m i : Nat) (o : α), (∀ j o, i ≤ j → g j o = o) → foldN g m i o = o
  | 0, _, _, _ => rfl
  | m + 1, i, o, h => (congrArg (foldN g m (i + 1)) (h i o (Nat.le_refl _))).trans (foldN_id m (i + 1) o fun j o hj => h j o (by omega))
theorem loop_fx {α : Type} {P : α → Prop} {g : Nat → α → α} {c : Nat → Bool} {len N : Nat} {F : Nat → Int → α → R} {k : α → R} (hN : len < N) (hc : ∀ i j, i ≤ j → c i = false → c j = false) (hg : ∀ i o, c i = false → g i o = o)
    (hs : ∀ (n i : Nat) (o : α), i < len → P o → F (n + 1) (i : Int) o = bif c i then F n ((i + 1 : Nat) : Int) (g i o) else k o)
    (hP : ∀ i o, i < len → P o → P (g i o)) (he : ∀ (n : Nat) (o : α), P o → F (n + 1) (len : Int) o = k o) {o : α} (ho : P o) : F N 0 o = k (foldN g len 0 o) := by
  have key : ∀ (m N i : Nat) (o : α), i + m = len → m < N → P o → F N (i : Int) o = k (foldN g m i o) := by
    intro m
    induction m with
    | zero =>
      intro N i o h hn hp
      obtain ⟨N, rfl⟩ : ∃ q, N = q + 1 := ⟨N - 1, by omega⟩
      have : i = len := by omega
      subst this
      exact he N o hp
    | succ m ih =>
      intro N i o h hn hp
      obtain ⟨N, rfl⟩ : ∃ q, N = q + 1 := ⟨N - 1, by omega⟩
      rw [hs N i o (by omega) hp]
      cases hci : c i
      · rw [foldN_id (m + 1) i o fun j o hj => hg j o (hc i j hj hci)]; rfl
      · exact ih N (i + 1) (g i o) (by omega) (by omega) (hP i o (by omega) hp)
  exact key len N 0 o (by omega) hN ho
noncomputable def faB (K : List (List C)) (order : List Int) (i : Nat) : Bool := inB (std.iget order (i : Int)) 0 ((K.length : Int) - 1) && rowsOk (std.rsv 2 K (std.iget order (i : Int)) 8)
noncomputable def faG (K : List (List C)) (order : List Int) (n : Int) (i : Nat) (o : List Int) : List Int :=
  bif std.lt (i : Int) n then (bif faB K order i then ovL o (std.rsv 2 K (std.iget order (i : Int)) 8) else o) else o
noncomputable def fa (cells : List Int) (start : List (List Int)) (K : List (List C)) (order : List Int) (n : Int) : List Int :=
  bif valsB cells 8 then (bif rowsOk start then foldN (faG K order n) order.length 0 (ovL cells start) else []) else []
theorem faG_len (K : List (List C)) (order : List Int) (n : Int) (i : Nat) (o : List Int) (h : o.length ≤ 1048576) : (faG K order n i o).length ≤ 1048576 := by
  unfold faG
  cases std.lt (i : Int) n
  · exact h
  · cases faB K order i
    · exact h
    · exact ovL_len _ _ h
theorem fa_len (cells : List Int) (start : List (List Int)) (K : List (List C)) (order : List Int) (n : Int) (h : cells.length ≤ 1048576) : (fa cells start K order n).length ≤ 1048576 := by
  unfold fa
  cases valsB cells 8
  · simp
  · cases rowsOk start
    · simp
    · exact foldN_P (P := fun o : List Int => o.length ≤ 1048576) (len := order.length) (fun i o _ => faG_len K order n i o) _ 0 _ (Nat.zero_add _) (ovL_len _ _ h)
theorem in_rows {x : Int} {n : Nat} (h : inB x 0 ((n : Int) - 1) = true) : std.inb x (n : Int) = true ∧ ∃ q : Nat, q < n ∧ x = (q : Int) := by
  unfold inB at h
  rw [decide_eq_true_eq] at h
  exact ⟨by rw [std_inb]; exact decide_eq_true (by omega), x.toNat, by omega, by omega⟩
theorem pred_len (n : Nat) (h : n ≤ 1048576) : std.sub .i64 (n : Int) 1 = (n : Int) - 1 := by rw [std_sub, i64_wrap (by omega) (by omega)]
theorem two_in (x : Int) (n : Nat) {α : Type} (a b : α) : (bif std.le 0 x then (bif std.lt x (n : Int) then a else b) else b) = bif inB x 0 ((n : Int) - 1) then a else b := by
  unfold inB
  by_cases h1 : 0 ≤ x
  · by_cases h2 : x < (n : Int)
    · have e1 : std.le 0 x = true := by rw [std_le]; exact decide_eq_true h1
      have e2 : std.lt x (n : Int) = true := by rw [std_lt]; exact decide_eq_true h2
      rw [e1, e2, decide_eq_true (by omega)]; rfl
    · have e1 : std.le 0 x = true := by rw [std_le]; exact decide_eq_true h1
      have e2 : std.lt x (n : Int) = false := by rw [std_lt]; exact decide_eq_false h2
      rw [e1, e2, decide_eq_false (by omega)]; rfl
  · have e1 : std.le 0 x = false := by rw [std_le]; exact decide_eq_false h1
    rw [e1, decide_eq_false (by omega)]; rfl
theorem FamAt_val (cells : List Int) (hc : cells.length ≤ 1048576) (rv ck ow : Int) (lo : Bool) (regs : List Int) (start buf : List (List Int)) (order : List Int) (reads : List (List Int)) (K : List (List C)) (r : Int) (hs : start.length ≤ 1048576) (ho : order.length ≤ 1048576) (hK : bKidRunS K) (k : List Int → R) :
    spec_FamAt std cells rv ck ow lo regs start buf order reads K r k = k (fa cells start K order r) ∧ impl_FamAt std cells rv ck ow lo regs start buf order reads K r k = k (fa cells start K order r) := by
  unfold spec_FamAt spec_FamAt_f impl_FamAt impl_FamAt_f fa
  simp only [l3Vals_val cells hc, areValues_val cells hc, (RowsOk_val start hs _).1, (RowsOk_val start hs _).2, (Overlay_val cells hc start hs _).1, (Overlay_val cells hc start hs _).2]
  cases hv : valsB cells 8
  · exact ⟨rfl, rfl⟩
  cases hw : rowsOk start
  · exact ⟨rfl, rfl⟩
  simp only [not_true', bf, bt]
  generalize hN : std.fuel = N
  have hN : 4294967296 = N := hN
  have hb1 := hK.1
  constructor
  · refine loop_fx (P := fun o : List Int => o.length ≤ 1048576) (c := fun i => std.lt (i : Int) r) (F := fun n i o => spec_FamAt_l0 std (spec_l3Vals std) (spec_RowsOk std) (spec_Overlay std) n r i rv ck ow lo regs start buf order reads K o (fun o => k o)) (by omega) (fun i j hij h => ?_) (fun i o h => ?_) (fun n i o hi hp => ?_) (fun i o _ h => faG_len K order r i o h) (fun n o _ => ?_) (ovL_len _ _ hc)
    · rw [std_lt] at h ⊢
      exact decide_eq_false (by have := of_decide_eq_false h; omega)
    · show faG K order r i o = o
      unfold faG
      rw [h]; rfl
    · simp only [spec_FamAt_l0, std_ilen, std_rlen, lt_nat_t hi, inb_nat_t hi, bt, two_in, faG, faB, add1 (i := i) (by omega)]
      cases std.lt (i : Int) r
      · rfl
      · cases hin : inB (std.iget order (i : Int)) 0 ((K.length : Int) - 1)
        · rfl
        · obtain ⟨h1, q, h2, h3⟩ := in_rows hin
          have hl : (std.rsv 2 K (std.iget order (i : Int)) 8).length ≤ 1048576 := by rw [h3]; exact (hK.2 q h2).2.2.1
          simp only [bt, h1, (RowsOk_val _ hl _).1]
          cases hro : rowsOk (std.rsv 2 K (std.iget order (i : Int)) 8)
          · rfl
          · simp only [bt, (Overlay_val o hp _ hl _).1, Bool.and_true]
    · simp only [spec_FamAt_l0, std_ilen, lt_nat_f (Nat.le_refl _), bf]
  · rw [std_ilen]
    refine loop_fo (P := fun o : List Int => o.length ≤ 1048576) (F := fun n i o => impl_FamAt_l0 std (impl_within std) (impl_areValues std) (impl_RowsOk std) (impl_Overlay std) n r order order.length i rv ck ow lo regs start buf order reads K o (fun o => k o)) (by omega) (fun n i o hi hp => ?_) (fun i o _ h => faG_len K order r i o h) (fun n o _ => ?_) (ovL_len _ _ hc)
    · simp only [impl_FamAt_l0, std_ilen, std_rlen, lt_nat_t hi, inb_nat_t hi, bt, pred_len _ hb1, in_val', faG, faB, add1 (i := i) (by omega)]
      cases std.lt (i : Int) r
      · rfl
      · cases hin : inB (std.iget order (i : Int)) 0 ((K.length : Int) - 1)
        · rfl
        · obtain ⟨h1, q, h2, h3⟩ := in_rows hin
          have hl : (std.rsv 2 K (std.iget order (i : Int)) 8).length ≤ 1048576 := by rw [h3]; exact (hK.2 q h2).2.2.1
          simp only [bt, h1, (RowsOk_val _ hl _).2]
          cases hro : rowsOk (std.rsv 2 K (std.iget order (i : Int)) 8)
          · rfl
          · simp only [bt, (Overlay_val o hp _ hl _).2, Bool.and_true]
    · simp only [impl_FamAt_l0, lt_nat_f (Nat.le_refl _), bf]

theorem faG_vals {K : List (List C)} {order : List Int} {n : Int} {i : Nat} {o : List Int} (h : valsB o 8 = true) : valsB (faG K order n i o) 8 = true := by
  unfold faG
  cases std.lt (i : Int) n
  · exact h
  · cases hb : faB K order i
    · exact h
    · unfold faB at hb
      rw [Bool.and_eq_true] at hb
      exact ovL_vals hb.2 h
theorem fa_len8 {cells : List Int} {start : List (List Int)} (h1 : valsB cells 8 = true) (h2 : rowsOk start = true) (K : List (List C)) (order : List Int) (n : Int) : (fa cells start K order n).length = 8 := by
  unfold fa
  rw [h1, h2, bt, bt]
  exact valsB_len (n := 8) (foldN_P (P := fun o : List Int => valsB o 8 = true) (len := order.length) (fun i o _ h => faG_vals h) _ 0 _ (Nat.zero_add _) (ovL_vals h2 h1))
theorem cell_in {x : Int} (h : cellB x = true) {s : List Int} (hs : s.length = 8) : std.inb x (std.ilen s) = true := by
  unfold cellB inB at h
  rw [decide_eq_true_eq] at h
  rw [std_inb, std_ilen, hs]
  exact decide_eq_true (by omega)
noncomputable def ftE (K : List (List C)) (i : Nat) (s : List Int) (e : Nat) : Bool := cellB (std.vget (std.rsv 3 K (i : Int) 7) (e : Int) 0) && std.eq (std.iget s (std.vget (std.rsv 3 K (i : Int) 7) (e : Int) 0)) (std.vget (std.rsv 3 K (i : Int) 7) (e : Int) 1)
noncomputable def ftI (cells : List Int) (start : List (List Int)) (K : List (List C)) (order : List Int) (i : Nat) : Bool := allB (ftE K i (fa cells start K order (std.rint K (i : Int) 2))) (std.rsv 3 K (i : Int) 7).length
noncomputable def ft (cells : List Int) (start : List (List Int)) (K : List (List C)) (order : List Int) : Bool := valsB cells 8 && (rowsOk start && allB (ftI cells start K order) K.length)
theorem FamTrue_val (cells : List Int) (hc : cells.length ≤ 1048576) (rv ck ow : Int) (lo : Bool) (regs : List Int) (start buf : List (List Int)) (order : List Int) (reads : List (List Int)) (K : List (List C)) (hs : start.length ≤ 1048576) (ho : order.length ≤ 1048576) (hK : bKidRunS K) (k : Bool → R) :
    spec_FamTrue std cells rv ck ow lo regs start buf order reads K k = k (ft cells start K order) ∧ impl_FamTrue std cells rv ck ow lo regs start buf order reads K k = k (ft cells start K order) := by
  have sp := fun n k => (FamAt_val cells hc rv ck ow lo regs start buf order reads K n hs ho hK k).1
  have im := fun n k => (FamAt_val cells hc rv ck ow lo regs start buf order reads K n hs ho hK k).2
  unfold spec_FamTrue spec_FamTrue_f impl_FamTrue impl_FamTrue_f ft
  simp only [l3Vals_val cells hc, (RowsOk_val start hs _).1, im]
  cases hv : valsB cells 8
  · have e : fa cells start K order 0 = [] := by unfold fa; rw [hv]; rfl
    rw [e]
    exact ⟨rfl, rfl⟩
  cases hw : rowsOk start
  · have e : fa cells start K order 0 = [] := by unfold fa; rw [hv, hw]; rfl
    rw [e]
    exact ⟨rfl, rfl⟩
  have h8 := fun n => fa_len8 hv hw K order n
  have hp : ∀ n, std.lt 0 (std.ilen (fa cells start K order n)) = true := fun n => by rw [std_lt, std_ilen, h8 n]; rfl
  simp only [not_true', bf, bt, hp, Bool.true_and]
  generalize hN : std.fuel = N
  have hN2 : 4294967296 = N := hN
  have hb1 := hK.1
  constructor
  · have lp : spec_FamTrue_l0 std (spec_l3Vals std) (spec_l3Cell std) (spec_RowsOk std) (spec_FamAt std) N cells 0 rv ck ow lo regs start buf order reads K (fun t => k t) (fun _ => k true) = bif allB (ftI cells start K order) K.length then k true else k false := by
      refine loop_all0 (F := fun n i => spec_FamTrue_l0 std (spec_l3Vals std) (spec_l3Cell std) (spec_RowsOk std) (spec_FamAt std) n cells i rv ck ow lo regs start buf order reads K (fun t => k t) (fun _ => k true)) (by omega) (fun n i hi => ?_) (fun n => ?_)
      · have hl : (std.rsv 3 K (i : Int) 7).length ≤ 1048576 := (hK.2 i hi).2.1
        simp only [spec_FamTrue_l0, std_rlen, lt_nat_t hi, inb_nat_t hi, bt, sp, hN, ftI]
        generalize hS : fa cells start K order (std.rint K (i : Int) 2) = s
        have hs8 : s.length = 8 := by rw [← hS]; exact h8 _
        rw [← add1 (i := i) (by omega)]
        refine loop_all0 (p := ftE K i s) (F := fun m e => spec_FamTrue_l2 std (spec_l3Vals std) (spec_l3Cell std) (spec_RowsOk std) (spec_FamAt std) m cells (i : Int) e rv ck ow lo regs start buf order reads K s (fun t => k t) (fun base i2 x1 x2 x3 x4 x5 x6 x7 x8 x9 x10 => spec_FamTrue_l0 std (spec_l3Vals std) (spec_l3Cell std) (spec_RowsOk std) (spec_FamAt std) n base (std.add .i64 i2 1) x1 x2 x3 x4 x5 x6 x7 x8 x9 x10 (fun t => k t) (fun _ => k true))) (by omega) (fun m e he => ?_) (fun m => ?_)
        · simp only [spec_FamTrue_l2, std_rlen, inb_nat_t hi, bt, std_vlen, lt_nat_t he, inb_nat_t he, cell_val, bif_not, add1 (i := e) (by omega), ftE]
          cases hx : cellB (std.vget (std.rsv 3 K (i : Int) 7) (e : Int) 0)
          · rfl
          · simp only [bt, cell_in hx hs8, Bool.true_and]
        · simp only [spec_FamTrue_l2, std_rlen, inb_nat_t hi, bt, std_vlen, lt_nat_f (Nat.le_refl _), bf]
      · simp only [spec_FamTrue_l0, std_rlen, lt_nat_f (Nat.le_refl _), bf]
    rw [lp]
    cases allB (ftI cells start K order) K.length <;> rfl
  · have lp : impl_FamTrue_l0 std (impl_isCell std) (impl_FamAt std) N cells K K.length 0 rv ck ow lo regs start buf order reads K (fun t => k t) (fun _ => k true) = bif allB (ftI cells start K order) K.length then k true else k false := by
      refine loop_all0 (F := fun n i => impl_FamTrue_l0 std (impl_isCell std) (impl_FamAt std) n cells K K.length i rv ck ow lo regs start buf order reads K (fun t => k t) (fun _ => k true)) (by omega) (fun n i hi => ?_) (fun n => ?_)
      · have hl : (std.rsv 3 K (i : Int) 7).length ≤ 1048576 := (hK.2 i hi).2.1
        simp only [impl_FamTrue_l0, std_rlen, lt_nat_t hi, inb_nat_t hi, bt, im, hN, ftI, hp]
        generalize hS : fa cells start K order (std.rint K (i : Int) 2) = s
        have hs8 : s.length = 8 := by rw [← hS]; exact h8 _
        rw [← add1 (i := i) (by omega), std_vlen]
        refine loop_all0 (p := ftE K i s) (F := fun m e => impl_FamTrue_l2 std (impl_isCell std) (impl_FamAt std) m cells s K K.length (i : Int) (std.rsv 3 K (i : Int) 7) (std.rsv 3 K (i : Int) 7).length e rv ck ow lo regs start buf order reads K (fun t => k t) (fun base x11 x12 i2 x1 x2 x3 x4 x5 x6 x7 x8 x9 x10 => impl_FamTrue_l0 std (impl_isCell std) (impl_FamAt std) n base x11 x12 (std.add .i64 i2 1) x1 x2 x3 x4 x5 x6 x7 x8 x9 x10 (fun t => k t) (fun _ => k true))) (by omega) (fun m e he => ?_) (fun m => ?_)
        · simp only [impl_FamTrue_l2, bt, std_vlen, lt_nat_t he, inb_nat_t he, cell_val', bif_not, add1 (i := e) (by omega), ftE]
          cases hx : cellB (std.vget (std.rsv 3 K (i : Int) 7) (e : Int) 0)
          · rfl
          · simp only [bt, cell_in hx hs8, Bool.true_and]
        · simp only [impl_FamTrue_l2, lt_nat_f (Nat.le_refl _), bf]
      · simp only [impl_FamTrue_l0, lt_nat_f (Nat.le_refl _), bf]
    rw [std_rlen, lp]
    cases allB (ftI cells start K order) K.length <;> rfl
theorem bool_same (x : Bool) : std.not (std.beq x x) = false := by cases x <;> rfl
theorem FamTrue_true (cells : List Int) (rv ck ow : Int) (lo : Bool) (regs : List Int) (start buf : List (List Int)) (order : List Int) (reads : List (List Int)) (kids : List (List C)) (f0 : FitArr cx (.ints 3 .i64 cells)) (g1 : IntKind.i64.min ≤ rv ∧ rv ≤ IntKind.i64.max) (g2 : IntKind.i64.min ≤ ck ∧ ck ≤ IntKind.i64.max) (g3 : IntKind.i64.min ≤ ow ∧ ow ≤ IntKind.i64.max) (f1 : FitArr cx (.ints 3 .i64 regs)) (f2 : FitArr cx (.vecs 297 2 start)) (f3 : FitArr cx (.vecs 299 3 buf)) (f4 : FitArr cx (.ints 3 .i64 order)) (f5 : FitArr cx (.vecs 297 2 reads)) (f6 : FitArr cx (.rows 295 kids)) (k : Bool → R) :
    laws_FnExactFamTrue std cells rv ck ow lo regs start buf order reads kids k = k true := by
  unfold laws_FnExactFamTrue laws_FnExactFamTrue_f
  by_cases hl : 1048576 < cells.length
  · have e : std.lt 1048576 (std.ilen cells) = true := by rw [std_lt, std_ilen]; exact decide_eq_true (by omega)
    simp only [e, bt]
  have e : std.lt 1048576 (std.ilen cells) = false := by rw [std_lt, std_ilen]; exact decide_eq_false (by omega)
  have hl' : cells.length ≤ 1048576 := by omega
  obtain ⟨v, v1, v2, v3⟩ := szFamily_v rv ck ow lo regs start buf order reads kids f1.1 f2.1 f3.1 f4.1 f5.1 f6 1048576 (by omega) (by omega)
  simp only [e, bf, v3]
  by_cases hc : v < 0
  · simp only [lt0_t hc, bt]
  obtain ⟨b1, b2, b3, b4, b5, b6⟩ := v2 (by omega)
  have c6 := bKidRunS_n _ b6
  simp only [lt0_f hc, bf, toIntS_v cells hl', toFamily_v rv ck ow lo regs start buf order reads kids b1 b2 (wd f2) b3 (wd f3) b4 b5 (wd f5) b6, (FamTrue_val cells hl' rv ck ow lo regs start buf order reads (nKidRunS kids) b2 b4 c6 _).1, (FamTrue_val cells hl' rv ck ow lo regs start buf order reads (nKidRunS kids) b2 b4 c6 _).2]
  simp only [bool_same, bf, eqIntS_r cells hl', not_true', eqFamily_r rv ck ow lo regs start buf order reads (nKidRunS kids) b1 b2 b3 b4 b5 c6]
end X
