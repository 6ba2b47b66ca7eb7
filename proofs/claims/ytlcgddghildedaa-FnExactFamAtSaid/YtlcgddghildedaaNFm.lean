/- Models of the functions, or plain laws about them; each theorem states its own conditions. -/
import Derived.Test.YtlcgddghildedaaNTm
import Derived.Test.YtlcgddghildedaaNMK
import Derived.Test.YtlcgddghildedaaNMR
import Derived.Test.YtlcgddghildedaaNOv
set_option linter.unusedVariables false
set_option linter.unusedSimpArgs false
open Go.Proofs
namespace X
open PM Go
/-! ## What the marks of a family count -/
theorem EntryS_c (rows : List (List C)) : laws_markEntryS_c rows = rows.length * 3 := by
  unfold laws_markEntryS_c
  generalize rows.length = n
  induction n with
  | zero => rfl
  | succ n ih => rw [Nat.add_mul]; exact congrArg (· + 3) ih
theorem rsr_len (a : List (List C)) (i : Int) (j : Nat) : asRows (cOf a i.toNat j) = std.rsr a i j := rfl
theorem KidMarkS_c (a : List (List C)) (h : bKidMarkS a) : laws_markKidMarkS_c a ≤ 1099513724928 := by
  unfold laws_markKidMarkS_c
  refine Nat.le_trans (sumN_bd _ _ 1048578 fun i hi => ?_) (Nat.le_trans (Nat.mul_le_mul_right _ h.1) (by omega))
  have h2 := h.2 i hi
  unfold bKidMark at h2
  unfold laws_markKidMarkS_e
  have e1 := rsi_len a (i : Int) 2
  rw [Int.toNat_natCast] at e1
  rw [IntS_c, e1]
  omega
theorem KidRunS_c (a : List (List C)) (h : bKidRunS a) : laws_markKidRunS_c a ≤ 1152930300711403520 := by
  unfold laws_markKidRunS_c
  refine Nat.le_trans (sumN_bd _ _ 1099520016395 fun i hi => ?_) (Nat.le_trans (Nat.mul_le_mul_right _ h.1) (by omega))
  obtain ⟨h1, h2, h3, h4⟩ := h.2 i hi
  unfold laws_markKidRunS_e
  have e1 := rsi_len a (i : Int) 6
  have e2 := rsv_len 3 a (i : Int) 7
  have e3 := rsv_len 2 a (i : Int) 8
  have e4 := KidMarkS_c _ h4
  rw [← rsr_len a (i : Int) 9] at e4
  rw [Int.toNat_natCast] at e1 e2 e3 e4
  rw [IntS_c, RowS_c, EntryS_c, e1, e2, e3]
  omega
theorem markFamily_eq (rv ck ow : Int) (lo : Bool) (regs : List Int) (start buf : List (List Int)) (order : List Int) (reads : List (List Int)) (kids : List (List C)) (h1 : regs.length ≤ 1048576) (h2 : start.length ≤ 1048576) (h3 : buf.length ≤ 1048576) (h4 : order.length ≤ 1048576) (h5 : reads.length ≤ 1048576) (h6 : bKidRunS kids) (k0 : Int) (l0 : 0 ≤ k0) (l1 : k0 ≤ 1048577) :
    ∃ m : Int, 0 ≤ m ∧ ∀ k : Int → R, laws_markFamily std rv ck ow lo regs start buf order reads kids k0 k = k m := by
  have hc := KidRunS_c kids h6
  have g1 : (PM.rowsOf (.ints 3 .i64 regs)).length = regs.length := List.length_map _
  have g2 : (PM.rowsOf (.vecs 161 2 start)).length = start.length := List.length_map _
  have g3 : (PM.rowsOf (.vecs 225 3 buf)).length = buf.length := List.length_map _
  have g4 : (PM.rowsOf (.ints 3 .i64 order)).length = order.length := List.length_map _
  have g5 : (PM.rowsOf (.vecs 161 2 reads)).length = reads.length := List.length_map _
  have g6 : PM.rowsOf (.rows 214 kids) = kids := rfl
  have h60 := h6.1
  refine ⟨k0 + (laws_markFamily_c (PM.rowsOf (.ints 3 .i64 regs)) (PM.rowsOf (.vecs 161 2 start)) (PM.rowsOf (.vecs 225 3 buf)) (PM.rowsOf (.ints 3 .i64 order)) (PM.rowsOf (.vecs 161 2 reads)) (PM.rowsOf (.rows 214 kids)) : Nat), by omega, fun k => ?_⟩
  unfold laws_markFamily
  rw [if_pos]
  unfold laws_markFamily_c
  rw [IntS_c, IntS_c, RowS_c, RowS_c, EntryS_c, g1, g2, g3, g4, g5, g6]
  omega
/-! ## The boxed row -/
theorem row_rint (row : List C) (j : Nat) : std.rint [row] 0 j = asInt (cAt row j) := rfl
theorem row_rbool (row : List C) (j : Nat) : std.rbool [row] 0 j = asBool (cAt row j) := rfl
theorem row_rsi (row : List C) (j : Nat) : std.rsi [row] 0 j = (asRows (cAt row j)).map fun r => asInt (cAt r 0) := rfl
theorem row_rsv (n : Nat) (row : List C) (j : Nat) : std.rsv n [row] 0 j = (asRows (cAt row j)).map fun r => (List.range n).map fun q => asInt (cAt r q) := rfl
theorem row_rsr (row : List C) (j : Nat) : std.rsr [row] 0 j = asRows (cAt row j) := rfl
/-! ## FamPuts -/
def fpG (b : List (List Int)) (i : Nat) (o : List (List Int)) : List (List Int) := std.vapp o [[std.vget b (i : Int) 0, std.vget b (i : Int) 1]]
def fp (b : List (List Int)) : List (List Int) := foldN (fpG b) b.length 0 []
theorem fp_len (b : List (List Int)) (hb : b.length ≤ 1048576) : (fp b).length ≤ 1048576 := by
  have h : ∀ (m i : Nat) (o : List (List Int)), (foldN (fpG b) m i o).length = o.length + m := fun m => by
    induction m with
    | zero => intro i o; rfl
    | succ m ih =>
      intro i o
      show (foldN (fpG b) m (i + 1) (fpG b i o)).length = _
      rw [ih]
      unfold fpG
      rw [std_vapp, List.length_append]
      show o.length + 1 + m = o.length + (m + 1)
      omega
  unfold fp
  rw [h]
  simpa using hb
theorem fp_two (b : List (List Int)) : ∀ r ∈ fp b, r.length = 2 := by
  refine foldN_P (P := fun o : List (List Int) => ∀ r ∈ o, r.length = 2) (len := b.length) (fun i o _ h r hr => ?_) _ 0 [] (by omega) (fun r hr => by cases hr)
  unfold fpG at hr
  rw [std_vapp] at hr
  rcases List.mem_append.1 hr with h1 | h1
  · exact h r h1
  · rcases List.mem_singleton.1 h1 with rfl
    rfl
theorem loop_fi {α : Type} {P : Nat → α → Prop} {g : Nat → α → α} {len N : Nat} {F : Nat → Int → α → R} {k : α → R} (hN : len < N) (hs : ∀ (n i : Nat) (o : α), i < len → P i o → F (n + 1) (i : Int) o = F n ((i + 1 : Nat) : Int) (g i o))
    (hP : ∀ i o, i < len → P i o → P (i + 1) (g i o)) (he : ∀ (n : Nat) (o : α), P len o → F (n + 1) (len : Int) o = k o) {o : α} (ho : P 0 o) : F N 0 o = k (foldN g len 0 o) := by
  have key : ∀ (m N i : Nat) (o : α), i + m = len → m < N → P i o → F N (i : Int) o = k (foldN g m i o) := by
    intro m
    induction m with
    | zero =>
      intro N i o h hn hp
      obtain ⟨N, rfl⟩ : ∃ q, N = q + 1 := ⟨N - 1, by omega⟩
      have : i = len := by omega
      subst this
      exact he N o hp
    | succ m ih =>
      intro N i o h hn hp
      obtain ⟨N, rfl⟩ : ∃ q, N = q + 1 := ⟨N - 1, by omega⟩
      rw [hs N i o (by omega) hp]
      exact ih N (i + 1) (g i o) (by omega) (by omega) (hP i o (by omega) hp)
  exact key len N 0 o (by omega) hN ho
theorem fpG_len (b : List (List Int)) (i : Nat) (o : List (List Int)) (h : o.length = i) : (fpG b i o).length = i + 1 := by
  unfold fpG
  rw [std_vapp, List.length_append, h]
  rfl
theorem FamPuts_val (rv ck ow : Int) (lo : Bool) (regs : List Int) (start buf : List (List Int)) (order : List Int) (reads : List (List Int)) (kids : List (List C)) (hb : buf.length ≤ 1048576) (k : List (List Int) → R) :
    spec_FamPuts std rv ck ow lo regs start buf order reads kids k = k (fp buf) ∧ impl_FamPuts std rv ck ow lo regs start buf order reads kids k = k (fp buf) := by
  unfold spec_FamPuts spec_FamPuts_f impl_FamPuts impl_FamPuts_f
  generalize hN : std.fuel = N
  have hN : 4294967296 = N := hN
  have hr : ∀ (o : List (List Int)) (i : Nat) (x y : Int), i < buf.length → o.length = i → std.room (std.vlen o) (std.vlen [[x, y]]) = true := fun o i x y hi ho => by rw [std_room]; exact decide_eq_true (by rw [std_vlen]; show (o.length : Int) + 1 ≤ _; omega)
  constructor
  · refine loop_fi (P := fun i (o : List (List Int)) => o.length = i) (F := fun n i o => spec_FamPuts_l0 std n i rv ck ow lo regs start buf order reads kids o (fun o => k o)) (by omega) (fun n i o hi hp => ?_) (fun i o _ h => fpG_len buf i o h) (fun n o _ => ?_) rfl
    · simp only [spec_FamPuts_l0, std_vlen buf, lt_nat_t hi, inb_nat_t hi, bt, hr o i _ _ hi hp, fpG, add1 (i := i) (by omega)]
    · simp only [spec_FamPuts_l0, std_vlen buf, lt_nat_f (Nat.le_refl _), bf]
  · rw [std_vlen]
    refine loop_fi (P := fun i (o : List (List Int)) => o.length = i) (F := fun n i o => impl_FamPuts_l0 std n buf buf.length i o (fun o => k o)) (by omega) (fun n i o hi hp => ?_) (fun i o _ h => fpG_len buf i o h) (fun n o _ => ?_) rfl
    · simp only [impl_FamPuts_l0, std_vlen buf, lt_nat_t hi, inb_nat_t hi, bt, hr o i _ _ hi hp, fpG, add1 (i := i) (by omega)]
    · simp only [impl_FamPuts_l0, lt_nat_f (Nat.le_refl _), bf]
theorem fam_read {rv ck ow : Int} {lo : Bool} {regs : List Int} {start buf : List (List Int)} {order : List Int} {reads : List (List Int)} {kids : List (List C)} {T : List (List C)} (h : [[(.i rv), (.i ck), (.i ow), (.b lo), (.s (std.ofi regs)), (.s (std.ofv start)), (.s (std.ofv buf)), (.s (std.ofi order)), (.s (std.ofv reads)), (.s kids)]] = T)
    (w1 : ∀ r ∈ start, r.length = 2) (w2 : ∀ r ∈ buf, r.length = 3) (w3 : ∀ r ∈ reads, r.length = 2) :
    std.rint T 0 0 = rv ∧ std.rint T 0 1 = ck ∧ std.rint T 0 2 = ow ∧ std.rbool T 0 3 = lo ∧ std.rsi T 0 4 = regs ∧ std.rsv 2 T 0 5 = start ∧ std.rsv 3 T 0 6 = buf ∧ std.rsi T 0 7 = order ∧ std.rsv 2 T 0 8 = reads ∧ std.rsr T 0 9 = kids := by
  subst h
  exact ⟨rfl, rfl, rfl, rfl, rsi_cell regs, rsv_cell w1, rsv_cell w2, rsi_cell order, rsv_cell w3, rfl⟩
theorem FamPuts_true (rv ck ow : Int) (lo : Bool) (regs : List Int) (start buf : List (List Int)) (order : List Int) (reads : List (List Int)) (kids : List (List C)) (g1 : IntKind.i64.min ≤ rv ∧ rv ≤ IntKind.i64.max) (g2 : IntKind.i64.min ≤ ck ∧ ck ≤ IntKind.i64.max) (g3 : IntKind.i64.min ≤ ow ∧ ow ≤ IntKind.i64.max) (f1 : FitArr cx (.ints 3 .i64 regs)) (f2 : FitArr cx (.vecs 297 2 start)) (f3 : FitArr cx (.vecs 299 3 buf)) (f4 : FitArr cx (.ints 3 .i64 order)) (f5 : FitArr cx (.vecs 297 2 reads)) (f6 : FitArr cx (.rows 295 kids)) (k : Bool → R) :
    laws_FnExactFamPuts std rv ck ow lo regs start buf order reads kids k = k true := by
  unfold laws_FnExactFamPuts laws_FnExactFamPuts_f
  generalize hT : [[(C.i rv), (.i ck), (.i ow), (.b lo), (.s (std.ofi regs)), (.s (std.ofv start)), (.s (std.ofv buf)), (.s (std.ofi order)), (.s (std.ofv reads)), (.s kids)]] = T
  obtain ⟨q0, q1, q2, q3, q4, q5, q6, q7, q8, q9⟩ := fam_read hT (wd f2) (wd f3) (wd f5)
  clear hT
  simp only [q0, q1, q2, q3, q4, q5, q6, q7, q8, q9]
  obtain ⟨v, v1, v2, v3⟩ := szFamily_v rv ck ow lo regs start buf order reads kids f1.1 f2.1 f3.1 f4.1 f5.1 f6 1048576 (by omega) (by omega)
  simp only [v3]
  by_cases hc : v < 0
  · simp only [lt0_t hc, bt]
  obtain ⟨b1, b2, b3, b4, b5, b6⟩ := v2 (by omega)
  have c6 := bKidRunS_n _ b6
  simp only [lt0_f hc, bf, toFamily_v rv ck ow lo regs start buf order reads kids b1 b2 (wd f2) b3 (wd f3) b4 b5 (wd f5) b6, (FamPuts_val rv ck ow lo regs start buf order reads (nKidRunS kids) b3 _).1, (FamPuts_val rv ck ow lo regs start buf order reads (nKidRunS kids) b3 _).2]
  have hl := fp_len buf b3
  have hw := fp_two buf
  generalize fp buf = g at hl hw
  obtain ⟨m, m1, m2⟩ := markFamily_eq rv ck ow lo regs start buf order reads (nKidRunS kids) b1 b2 b3 b4 b5 c6 1 (by omega) (by omega)
  simp only [eqRowS_r g hl, not_true', bf, eqFamily_r rv ck ow lo regs start buf order reads (nKidRunS kids) b1 b2 b3 b4 b5 c6, m2, ge0_f m1, markRowS_k g 1 (by omega) hw (by omega) (by omega), heldRowS_k g.length 1 (by omega) (by omega) (by omega),
    ge0_f (show (0 : Int) ≤ 1 + 2 * (g.length : Int) by omega), eq_self]
end X
