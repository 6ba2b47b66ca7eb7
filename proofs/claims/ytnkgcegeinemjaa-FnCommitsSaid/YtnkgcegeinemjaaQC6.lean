/- Models of the functions, or plain laws about them; each theorem states its own conditions. -/
import Derived.Test.YtnkgcegeinemjaaQC5
set_option linter.unusedVariables false
set_option linter.unusedSimpArgs false
open Go.Proofs
namespace X
open PM Go

/-- All states of a commit that runs; left = how many steps are left at most. -/
inductive St (cl : Int) (l P : List (List Int)) (Rd : List Int) : Nat → Int → List (List Int) → Int → Int → Int → Prop
  | p1 (t : Nat) (l' : List (List Int)) (wv : Int) : (0 ≤ wv ∧ wv ≤ 1000000) → t < P.length → Lk l P t l' → St cl l P Rd (P.length - t + 1 + Rd.length + 2 * P.length) cl l' 1 t wv
  | p2 (l' : List (List Int)) (wv : Int) : (0 ≤ wv ∧ wv ≤ 1000000) → Lk l P P.length l' → St cl l P Rd (1 + Rd.length + 2 * P.length) cl l' 2 0 wv
  | p3 (t : Nat) (l' : List (List Int)) : cl < 1000000 → t < Rd.length → Lk l P P.length l' → St cl l P Rd (Rd.length - t + 2 * P.length) (cl + 1) l' 3 t (cl + 1)
  | p4 (t : Nat) (l' : List (List Int)) : cl < 1000000 → t < P.length → Wr l P (cl + 1) t 0 l' → St cl l P Rd (2 * P.length - t) (cl + 1) l' 4 t (cl + 1)
  | p5 (t : Nat) (l' : List (List Int)) : cl < 1000000 → t < P.length → Wr l P (cl + 1) P.length t l' → St cl l P Rd (P.length - t) (cl + 1) l' 5 t (cl + 1)
  | p6 (l' : List (List Int)) : cl < 1000000 → Wr l P (cl + 1) P.length P.length l' → St cl l P Rd 0 (cl + 1) l' 6 0 (cl + 1)
  | p7 (t : Nat) (cl' : Int) (l' : List (List Int)) (wv : Int) : (cl ≤ cl' ∧ cl' ≤ 1000000) → (0 ≤ wv ∧ wv ≤ 1000000) → t < P.length → Lk l P (t + 1) l' → St cl l P Rd (t + 1) cl' l' 7 t wv
  | p8 (cl' : Int) (l' : List (List Int)) (wv : Int) : (cl ≤ cl' ∧ cl' ≤ 1000000) → (0 ≤ wv ∧ wv ≤ 1000000) → Lk l P 0 l' → St cl l P Rd 0 cl' l' 8 0 wv
theorem St.ok {cl : Int} {l P : List (List Int)} {Rd : List Int} (hb : Base cl P Rd) (hm : memOk cl l = true) {n : Nat} {cl' : Int} {l' : List (List Int)} {ph pos wv : Int} (h : St cl l P Rd n cl' l' ph pos wv) :
    commitOk 9 cl ph pos wv P Rd = true ∧ memOk cl' l' = true ∧ GoodM 8 l' := by
  have hc := hb.clock
  cases h with
  | p1 t _ _ hw ht hk => exact ⟨hb.ok (by omega) hw ⟨by omega, by show (t : Int) ≤ (P.length : Int) - 1; omega⟩, hk.mem hm (Int.le_refl _) hc.2, hk.good⟩
  | p2 _ _ hw hk => exact ⟨hb.ok (by omega) hw ⟨by omega, by show (0 : Int) ≤ 1 - 1; omega⟩, hk.mem hm (Int.le_refl _) hc.2, hk.good⟩
  | p3 t _ hl ht hk => exact ⟨hb.ok (by omega) (by omega) ⟨by omega, by show (t : Int) ≤ (Rd.length : Int) - 1; omega⟩, hk.mem hm (by omega) (by omega), hk.good⟩
  | p4 t _ hl ht hk => exact ⟨hb.ok (by omega) (by omega) ⟨by omega, by show (t : Int) ≤ (P.length : Int) - 1; omega⟩, hk.mem hb hm (by omega) (by omega) (by omega), hk.good⟩
  | p5 t _ hl ht hk => exact ⟨hb.ok (by omega) (by omega) ⟨by omega, by show (t : Int) ≤ (P.length : Int) - 1; omega⟩, hk.mem hb hm (by omega) (by omega) (by omega), hk.good⟩
  | p6 _ hl hk => exact ⟨hb.ok (by omega) (by omega) ⟨by omega, by show (0 : Int) ≤ 1 - 1; omega⟩, hk.mem hb hm (by omega) (by omega) (by omega), hk.good⟩
  | p7 t _ _ _ h1 hw ht hk => exact ⟨hb.ok (by omega) hw ⟨by omega, by show (t : Int) ≤ (P.length : Int) - 1; omega⟩, hk.mem hm h1.1 h1.2, hk.good⟩
  | p8 _ _ _ h1 hw hk => exact ⟨hb.ok (by omega) hw ⟨by omega, by show (0 : Int) ≤ 1 - 1; omega⟩, hk.mem hm h1.1 h1.2, hk.good⟩
theorem St.left {cl : Int} {l P : List (List Int)} {Rd : List Int} (hb : Base cl P Rd) (hm : memOk cl l = true) {n : Nat} {cl' : Int} {l' : List (List Int)} {ph pos wv : Int} (h : St cl l P Rd n cl' l' ph pos wv) (k : Int → R) :
    impl_CommitLeft std 9 cl ph pos wv P Rd k = k (n : Int) := by
  have ok := (h.ok hb hm).1
  have hp := hb.len
  have hr := hb.rlen
  have mul : ∀ x : Int, -4611686018427387904 ≤ x ∧ x ≤ 4611686018427387903 → IntKind.i64.wrap x = x := fun x h => i64_wrap (by omega) (by omega)
  simp only [impl_CommitLeft, impl_CommitLeft_f, (CommitOk_val 9 cl ph pos wv P Rd (by omega) (by omega) _).2, ok, bif_not, bt, std_eq, std_add, std_sub, std_mul, std_vlen, std_ilen]
  cases h with
  | p1 t _ _ hw ht hk =>
    rw [show ((1 : Int) == 1) = true from rfl, bt, mul (2 * (P.length : Int)) (by omega), mul ((P.length : Int) - (t : Int)) (by omega), mul ((P.length : Int) - (t : Int) + 1) (by omega), mul ((P.length : Int) - (t : Int) + 1 + (Rd.length : Int)) (by omega), mul _ (by omega)]
    congr 1; omega
  | p2 _ _ hw hk =>
    rw [show ((2 : Int) == 1) = false from rfl, bf, show ((2 : Int) == 2) = true from rfl, bt, mul (2 * (P.length : Int)) (by omega), mul (1 + (Rd.length : Int)) (by omega), mul _ (by omega)]
    congr 1
  | p3 t _ hl ht hk =>
    rw [show ((3 : Int) == 1) = false from rfl, bf, show ((3 : Int) == 2) = false from rfl, bf, show ((3 : Int) == 3) = true from rfl, bt, mul (2 * (P.length : Int)) (by omega), mul ((Rd.length : Int) - (t : Int)) (by omega), mul _ (by omega)]
    congr 1; omega
  | p4 t _ hl ht hk =>
    rw [show ((4 : Int) == 1) = false from rfl, bf, show ((4 : Int) == 2) = false from rfl, bf, show ((4 : Int) == 3) = false from rfl, bf, show ((4 : Int) == 4) = true from rfl, bt, mul (2 * (P.length : Int)) (by omega), mul _ (by omega)]
    congr 1; omega
  | p5 t _ hl ht hk =>
    rw [show ((5 : Int) == 1) = false from rfl, bf, show ((5 : Int) == 2) = false from rfl, bf, show ((5 : Int) == 3) = false from rfl, bf, show ((5 : Int) == 4) = false from rfl, bf, show ((5 : Int) == 5) = true from rfl, bt, mul _ (by omega)]
    congr 1; omega
  | p6 _ hl hk => rfl
  | p7 t _ _ _ h1 hw ht hk =>
    rw [show ((7 : Int) == 1) = false from rfl, bf, show ((7 : Int) == 2) = false from rfl, bf, show ((7 : Int) == 3) = false from rfl, bf, show ((7 : Int) == 4) = false from rfl, bf, show ((7 : Int) == 5) = false from rfl, bf, show ((7 : Int) == 7) = true from rfl, bt, mul _ (by omega)]
    congr 1
  | p8 _ _ _ h1 hw hk => rfl
end X
