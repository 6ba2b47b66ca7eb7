/- Models of the functions, or plain laws about them; each theorem states its own conditions. -/
import Derived.Test.YtlcgddghildedaaNW5
import Derived.Test.YtlcgddghildedaaNMK
set_option linter.unusedVariables false
set_option linter.unusedSimpArgs false
open Go.Proofs
namespace X
open PM Go
set_option maxHeartbeats 1000000
/-! ## FamSerial: the law -/
theorem OpS_c (rows : List (List C)) : laws_markOpS_c rows = rows.length * 4 := by
  unfold laws_markOpS_c
  generalize rows.length = n
  induction n with
  | zero => rfl
  | succ n ih => rw [Nat.add_mul]; exact congrArg (· + 4) ih
theorem KidS_c (a : List (List C)) (h : bKidS a) : laws_markKidS_c a ≤ 4398046511104 := by
  unfold laws_markKidS_c
  refine Nat.le_trans (sumN_bd _ _ 4194304 fun i hi => ?_) (Nat.le_trans (Nat.mul_le_mul_right _ h.1) (by omega))
  have h2 := h.2 i hi
  unfold bKid at h2
  unfold laws_markKidS_e
  have e1 := rsv_len 4 a (i : Int) 0
  rw [Int.toNat_natCast] at e1
  rw [OpS_c, e1]
  omega
theorem markFamScript_eq (c r : List Int) (w : List (List Int)) (kids : List (List C)) (t : List Int) (h1 : c.length ≤ 1048576) (h2 : r.length ≤ 1048576) (h3 : w.length ≤ 1048576) (h4 : bKidS kids) (h5 : t.length ≤ 1048576) (k0 : Int) (l0 : 0 ≤ k0) (l1 : k0 ≤ 1048577) :
    ∃ m : Int, (0 ≤ m ∧ m ≤ 4611686018427387904) ∧ ∀ k : Int → R, laws_markFamScript std c r w kids t k0 k = k m := by
  have hc := KidS_c kids h4
  have g1 : (PM.rowsOf (.ints 3 .i64 c)).length = c.length := List.length_map _
  have g2 : (PM.rowsOf (.ints 3 .i64 r)).length = r.length := List.length_map _
  have g3 : (PM.rowsOf (.vecs 161 2 w)).length = w.length := List.length_map _
  have g4 : PM.rowsOf (.rows 233 kids) = kids := rfl
  have g5 : (PM.rowsOf (.ints 3 .i64 t)).length = t.length := List.length_map _
  have h40 := h4.1
  have hb : laws_markFamScript_c (PM.rowsOf (.ints 3 .i64 c)) (PM.rowsOf (.ints 3 .i64 r)) (PM.rowsOf (.vecs 161 2 w)) (PM.rowsOf (.rows 233 kids)) (PM.rowsOf (.ints 3 .i64 t)) ≤ 4611686018426000000 := by
    unfold laws_markFamScript_c
    rw [IntS_c, IntS_c, RowS_c, IntS_c, g1, g2, g3, g4, g5]
    omega
  refine ⟨k0 + (laws_markFamScript_c (PM.rowsOf (.ints 3 .i64 c)) (PM.rowsOf (.ints 3 .i64 r)) (PM.rowsOf (.vecs 161 2 w)) (PM.rowsOf (.rows 233 kids)) (PM.rowsOf (.ints 3 .i64 t)) : Nat), by omega, fun k => ?_⟩
  unfold laws_markFamScript
  rw [if_pos]
  have g4' : (PM.rowsOf (.rows 233 kids)).length = kids.length := rfl
  rw [g1, g2, g3, g4', g5]
  omega
theorem fs_read {c r : List Int} {w : List (List Int)} {kids : List (List C)} {t : List Int} {T : List (List C)} (h : [[(.s (std.ofi c)), (.s (std.ofi r)), (.s (std.ofv w)), (.s kids), (.s (std.ofi t))]] = T) (w1 : ∀ r ∈ w, r.length = 2) :
    std.rsi T 0 0 = c ∧ std.rsi T 0 1 = r ∧ std.rsv 2 T 0 2 = w ∧ std.rsr T 0 3 = kids ∧ std.rsi T 0 4 = t := by
  subst h
  exact ⟨rsi_cell c, rsi_cell r, rsv_cell w1, rfl, rsi_cell t⟩
theorem FamSerial_true (c r : List Int) (w : List (List Int)) (kids : List (List C)) (t a : List Int) (f1 : FitArr cx (.ints 3 .i64 c)) (f2 : FitArr cx (.ints 3 .i64 r)) (f3 : FitArr cx (.vecs 297 2 w)) (f4 : FitArr cx (.rows 309 kids)) (f5 : FitArr cx (.ints 3 .i64 t)) (f6 : FitArr cx (.ints 3 .i64 a)) (k : Bool → R) :
    laws_FnExactFamSerialX c r w kids t a k = k true := by
  unfold laws_FnExactFamSerialX laws_FnExactFamSerial_f
  generalize hT : [[(C.s (std.ofi c)), (.s (std.ofi r)), (.s (std.ofv w)), (.s kids), (.s (std.ofi t))]] = T
  obtain ⟨q0, q1, q2, q3, q4⟩ := fs_read hT (wd f3)
  clear hT
  simp only [q0, q1, q2, q3, q4]
  by_cases hl : 1048576 < a.length
  · have e : std.lt 1048576 (std.ilen a) = true := by rw [std_lt, std_ilen]; exact decide_eq_true (by omega)
    simp only [e, bt]
  have e : std.lt 1048576 (std.ilen a) = false := by rw [std_lt, std_ilen]; exact decide_eq_false (by omega)
  have hl' : a.length ≤ 1048576 := by omega
  obtain ⟨v, v1, v2, v3⟩ := szFamScript_v c r w kids t f1.1 f2.1 f3.1 f4 f5.1 1048576 (by omega) (by omega)
  simp only [e, bf, v3]
  by_cases hc : v < 0
  · simp only [lt0_t hc, bt]
  obtain ⟨b1, b2, b3, b4, b5⟩ := v2 (by omega)
  have c4 := bKidS_n _ b4
  obtain ⟨R', C', r1, r2, r3⟩ := Fam_both c r w (nKidS kids) t a b1 b2 b3 c4 hl'
  obtain ⟨m, m1, m2⟩ := markFamScript_eq c r w (nKidS kids) t b1 b2 b3 c4 b5 1 (by omega) (by omega)
  simp only [lt0_f hc, bf, toIntS_v a hl', toFamScript_v c r w kids t b1 b2 b3 (wd f3) b4 b5, (r3 _).1, (r3 _).2, eqIntS_r R' r1, eqIntS_r C' r2, eqIntS_r a hl', not_true', eqFamScript_r c r w (nKidS kids) t b1 b2 b3 c4 b5, m2,
    markIntS_eq a m (by omega) (by omega) (by omega), ge0_f (show (0 : Int) ≤ m + (a.length : Int) by omega), markIntS_eq R' 1 (by omega) (by omega) (by omega), markIntS_eq C' (1 + (R'.length : Int)) (by omega) (by omega) (by omega),
    heldIntS_eq 1 R'.length (by omega) (by omega) (by omega), heldIntS_eq (1 + (R'.length : Int)) C'.length (by omega) (by omega) (by omega), ge0_f (show (0 : Int) ≤ 1 + (R'.length : Int) by omega), ge0_f (show (0 : Int) ≤ 1 + (R'.length : Int) + (C'.length : Int) by omega), eq_self]
end X
