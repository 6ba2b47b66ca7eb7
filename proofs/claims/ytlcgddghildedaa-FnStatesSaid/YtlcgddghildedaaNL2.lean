/- Models of the functions, or plain laws about them; each theorem states its own conditions. -/
import Derived.Test.YtlcgddghildedaaNH2
set_option linter.unusedVariables false
set_option linter.unusedSimpArgs false
open Go.Proofs
namespace X
open PM Go

/-! ## LastWriter -/
def lastO (l : List (List Int)) (cell : Int) : Nat → Option Int
  | 0 => none
  | m + 1 => bif std.eq (std.vget l (m : Int) 0) cell then some (std.vget l (m : Int) 1) else lastO l cell m
def gotO (o : Option Int) (kret : Int → Bool → R) (kx : Unit → R) : R := match o with | some v => kret v true | none => kx ()
theorem Last_l (c1 : spec_RowsOk_T) (c2 : impl_RowsOk_T) (l : List (List Int)) (hb : l.length ≤ 1048576) (cell : Int) (kret : Int → Bool → R) (kx : Unit → R) : ∀ (m N : Nat), m ≤ l.length → m < N →
    spec_Last_l0 std c1 N l cell ((m : Int) - 1) kret kx = gotO (lastO l cell m) kret kx ∧ impl_Last_l0 std c2 N l cell ((m : Int) - 1) kret kx = gotO (lastO l cell m) kret kx
  | m, 0, h1, h2 => by omega
  | 0, N + 1, h1, h2 => by
    have e : std.le 0 (((0 : Nat) : Int) - 1) = false := rfl
    exact ⟨by simp only [spec_Last_l0, e, bf]; rfl, by simp only [impl_Last_l0, e, bf]; rfl⟩
  | m + 1, N + 1, h1, h2 => by
    have ei : ((m + 1 : Nat) : Int) - 1 = (m : Int) := by omega
    have e1 : std.le 0 (m : Int) = true := by rw [std_le]; exact decide_eq_true (by omega)
    have es : std.sub .i64 (m : Int) 1 = (m : Int) - 1 := by rw [std_sub]; exact i64_wrap (by omega) (by omega)
    obtain ⟨r1, r2⟩ := Last_l c1 c2 l hb cell kret kx m N (by omega) (by omega)
    simp only [ei, spec_Last_l0, impl_Last_l0, std_vlen, e1, inb_nat_t (show m < l.length by omega), bt, es, r1, r2, lastO]
    cases std.eq (std.vget l (m : Int) 0) cell <;> exact ⟨rfl, rfl⟩
def lastV (l : List (List Int)) (cell : Int) : Int × Bool := bif rowsOk l then (match lastO l cell l.length with | some v => (v, true) | none => (0, false)) else (0, false)
theorem Last_val (l : List (List Int)) (hb : l.length ≤ 1048576) (cell : Int) (k : Int → Bool → R) : spec_Last std l cell k = k (lastV l cell).1 (lastV l cell).2 ∧ impl_Last std l cell k = k (lastV l cell).1 (lastV l cell).2 := by
  unfold spec_Last spec_Last_f impl_Last impl_Last_f lastV
  generalize hF : std.fuel = N
  have hN : 4294967296 = N := hF
  have es : std.sub .i64 (l.length : Int) 1 = (l.length : Int) - 1 := by rw [std_sub]; exact i64_wrap (by omega) (by omega)
  obtain ⟨r1, r2⟩ := Last_l (spec_RowsOk std) (impl_RowsOk std) l hb cell (fun a b => k a b) (fun _ => k 0 false) l.length N (Nat.le_refl _) (by omega)
  simp only [(RowsOk_val l hb _).1, (RowsOk_val l hb _).2, std_vlen, es, r1, r2]
  cases rowsOk l
  · exact ⟨rfl, rfl⟩
  · cases lastO l cell l.length <;> exact ⟨rfl, rfl⟩
def lwF (a : List (List C)) (cell n : Int) (i : Nat) (best : Int) : Int :=
  bif (lastV (std.rsv 2 a (i : Int) 2) cell).2 then (bif std.le (std.rint a (i : Int) 0) n then (bif std.lt best (std.rint a (i : Int) 0) then std.rint a (i : Int) 0 else best) else best) else best
def lwV (a : List (List C)) (cell n : Int) : Int := bif histB a then foldB (lwF a cell n) a.length 0 else 0
theorem imax_lt (x y : Int) : std.imax x y = bif std.lt x y then y else x := by
  show (if y > x then y else x) = _
  rw [std_lt]
  by_cases h : x < y
  · rw [if_pos h, decide_eq_true h]; rfl
  · rw [if_neg h, decide_eq_false h]; rfl
theorem LastWriter_im (a : List (List C)) (hb : bWroteS a) (cell n : Int) (k : Int → R) : impl_LastWriter std a cell n k = k (lwV a cell n) := by
  have hb1 := hb.1
  unfold impl_LastWriter impl_LastWriter_f lwV
  generalize hF : std.fuel = N
  have hN : 4294967296 = N := hF
  have lp : impl_LastWriter_l0 std (impl_HistOk std) (impl_Last std) N cell n 0 a (std.rlen a) 0 (fun b => k b) = k (foldB (lwF a cell n) a.length 0) := by
    refine loop_fold0 (fun _ _ => True) (F := fun m i best => impl_LastWriter_l0 std (impl_HistOk std) (impl_Last std) m cell n best a (std.rlen a) i (fun b => k b)) (kx := fun b => k b) (by omega) trivial (fun m i best hi _ => ?_) (fun _ _ _ _ => trivial) (fun m best _ => ?_)
    · have b1 : (std.rsv 2 a (i : Int) 2).length ≤ 1048576 := hb.2 i hi
      simp only [impl_LastWriter_l0, std_rlen, lt_nat_t hi, inb_nat_t hi, bt, (Last_val _ b1 cell _).2, lwF, imax_lt, add1 (i := i) (by omega)]
      cases (lastV (std.rsv 2 a (i : Int) 2) cell).2 <;> cases std.le (std.rint a (i : Int) 0) n <;> rfl
    · simp only [impl_LastWriter_l0, std_rlen, lt_nat_f (Nat.le_refl _), bf]
  rw [HistOk_im a hb, lp]
  cases histB a <;> rfl
end X
