/- Models of the functions, or plain laws about them; each theorem states its own conditions. -/
import Derived.Test.YtnkgcegeinemjaaQ2
import Derived.Test.YtnkgcegeinemjaaQ3
set_option linter.unusedVariables false
set_option linter.unusedSimpArgs false
open Go.Proofs
namespace X
open PM Go

def fld (l : List (List Int)) (i j : Nat) : Int := (l.getD i []).getD j 0
theorem vget_nat (l : List (List Int)) (i j : Nat) : std.vget l (i : Int) j = fld l i j := rfl
def holdOk (a b c : Int) : Bool := bif decide (1 ≤ a ∧ a ≤ 9) then (bif decide (0 ≤ b ∧ b ≤ 8) then decide (1 ≤ c ∧ c ≤ 2) else false) else false
theorem holdOk_spec {a b c : Int} (h : holdOk a b c = true) : (1 ≤ a ∧ a ≤ 9) ∧ (0 ≤ b ∧ b ≤ 8) ∧ (1 ≤ c ∧ c ≤ 2) := by
  unfold holdOk at h
  by_cases h1 : 1 ≤ a ∧ a ≤ 9
  · by_cases h2 : 0 ≤ b ∧ b ≤ 8
    · by_cases h3 : 1 ≤ c ∧ c ≤ 2
      · exact ⟨h1, h2, h3⟩
      · simp only [h1, h2, h3, and_self, decide_true, decide_false, cond_true] at h; cases h
    · simp only [h1, h2, and_self, decide_true, decide_false, cond_true, cond_false] at h; cases h
  · simp only [h1, decide_false, cond_false] at h; cases h
theorem isHold_val (a b c : Int) (k : Bool → R) : impl_isHold std a b c k = k (holdOk a b c) := by
  simp only [impl_isHold, impl_isHold_f, within_eq, l1In_val, holdOk]
  cases decide (1 ≤ a ∧ a ≤ 9) <;> cases decide (0 ≤ b ∧ b ≤ 8) <;> rfl
/-- May one hold follow another? -/
def pairOk (p0 p1 p2 q0 q1 q2 : Int) : Bool := bif decide (q1 < p1) then false else (bif p1 == q1 then (bif decide (q0 ≤ p0) then false else (bif q2 == 2 then false else (bif p2 == 2 then false else true))) else true)
def goodAt (l : List (List Int)) (i : Nat) : Bool :=
  bif holdOk (fld l i 0) (fld l i 1) (fld l i 2) then (bif decide (0 < i) then pairOk (fld l (i - 1) 0) (fld l (i - 1) 1) (fld l (i - 1) 2) (fld l i 0) (fld l i 1) (fld l i 2) else true) else false
def holdsGo (l : List (List Int)) : Nat → Nat → Bool
  | 0, _ => true
  | m + 1, i => bif goodAt l i then holdsGo l m (i + 1) else false
def holdsOk (l : List (List Int)) : Bool := holdsGo l l.length 0

theorem pred_nat {i : Nat} (h : 0 < i) (hb : i ≤ 4611686018427387904) : std.sub .i64 (i : Int) 1 = ((i - 1 : Nat) : Int) := by
  rw [std_sub, i64_wrap (by omega) (by omega)]; omega
theorem HoldsOk_go (l : List (List Int)) (hb : l.length ≤ 2147483648) (kret : Bool → R) (kx : Unit → R) : ∀ (m N i : Nat), i + m = l.length → m < N →
    spec_HoldsOk_l0 std (spec_l1In std) N l i kret kx = bif holdsGo l m i then kx () else kret false
  | 0, N + 1, i, hi, hn => by
    unfold spec_HoldsOk_l0
    have e1 : std.lt (i : Int) (l.length : Int) = false := by rw [lt_nat]; exact decide_eq_false (by omega)
    simp only [std_vlen, e1, cond_false, holdsGo, cond_true]
  | m + 1, N + 1, i, hi, hn => by
    unfold spec_HoldsOk_l0 holdsGo goodAt
    have e1 : std.lt (i : Int) (l.length : Int) = true := by rw [lt_nat]; exact decide_eq_true (by omega)
    have e2 : std.inb (i : Int) (l.length : Int) = true := by rw [inb_nat]; exact decide_eq_true (by omega)
    have ih := HoldsOk_go l hb kret kx m N (i + 1) (by omega) (by omega)
    have ei : std.add .i64 (i : Int) 1 = ((i + 1 : Nat) : Int) := by rw [std_add]; exact cast1 i (by omega)
    simp only [std_vlen, e1, e2, cond_true, vget_nat, l1In_val, ei, ih, holdOk]
    by_cases h0 : 0 < i
    · have ep := pred_nat h0 (by omega)
      have e3 : std.inb ((i - 1 : Nat) : Int) (l.length : Int) = true := by rw [inb_nat]; exact decide_eq_true (by omega)
      have e4 : std.lt 0 (i : Int) = true := by rw [std_lt]; exact decide_eq_true (by omega)
      simp only [ep, e3, e4, cond_true, vget_nat, std_lt, std_le, std_eq, h0, decide_true, pairOk]
      cases decide (1 ≤ fld l i 0 ∧ fld l i 0 ≤ 9) <;> cases decide (0 ≤ fld l i 1 ∧ fld l i 1 ≤ 8) <;> cases decide (1 ≤ fld l i 2 ∧ fld l i 2 ≤ 2) <;>
        cases decide (fld l i 1 < fld l (i - 1) 1) <;> cases (fld l (i - 1) 1 == fld l i 1) <;> cases decide (fld l i 0 ≤ fld l (i - 1) 0) <;> cases (fld l i 2 == 2) <;> cases (fld l (i - 1) 2 == 2) <;> rfl
    · have e4 : std.lt 0 (i : Int) = false := by rw [std_lt]; exact decide_eq_false (by omega)
      simp only [e4, cond_false, h0, decide_false]
      cases decide (1 ≤ fld l i 0 ∧ fld l i 0 ≤ 9) <;> cases decide (0 ≤ fld l i 1 ∧ fld l i 1 ≤ 8) <;> cases decide (1 ≤ fld l i 2 ∧ fld l i 2 ≤ 2) <;> rfl
theorem HoldsOk_go2 (l : List (List Int)) (hb : l.length ≤ 2147483648) (kret : Bool → R) (kx : Unit → R) : ∀ (m N i : Nat), i + m = l.length → m < N → (0 < i → holdOk (fld l (i - 1) 0) (fld l (i - 1) 1) (fld l (i - 1) 2) = true) →
    impl_HoldsOk_l0 std (impl_isHold std) (impl_compareHolds std) N l l l.length i kret kx = bif holdsGo l m i then kx () else kret false
  | 0, N + 1, i, hi, hn, _ => by
    unfold impl_HoldsOk_l0
    have e1 : std.lt (i : Int) (l.length : Int) = false := by rw [lt_nat]; exact decide_eq_false (by omega)
    simp only [std_vlen, e1, cond_false, holdsGo, cond_true]
  | m + 1, N + 1, i, hi, hn, hp => by
    unfold impl_HoldsOk_l0 holdsGo goodAt
    have e1 : std.lt (i : Int) (l.length : Int) = true := by rw [lt_nat]; exact decide_eq_true (by omega)
    have e2 : std.inb (i : Int) (l.length : Int) = true := by rw [inb_nat]; exact decide_eq_true (by omega)
    have ei : std.add .i64 (i : Int) 1 = ((i + 1 : Nat) : Int) := by rw [std_add]; exact cast1 i (by omega)
    simp only [std_vlen, e1, e2, cond_true, vget_nat, isHold_val, ei]
    cases hh : holdOk (fld l i 0) (fld l i 1) (fld l i 2)
    · simp only [not_false', cond_true, cond_false]
    · have ih := HoldsOk_go2 l hb kret kx m N (i + 1) (by omega) (by omega) (fun _ => by simpa using hh)
      simp only [not_true', cond_true, cond_false, ih]
      by_cases h0 : 0 < i
      · have ep := pred_nat h0 (by omega)
        have e3 : std.inb ((i - 1 : Nat) : Int) (l.length : Int) = true := by rw [inb_nat]; exact decide_eq_true (by omega)
        have e4 : std.lt 0 (i : Int) = true := by rw [std_lt]; exact decide_eq_true (by omega)
        obtain ⟨q0, q1, q2⟩ := holdOk_spec hh
        obtain ⟨p0, p1, p2⟩ := holdOk_spec (hp h0)
        simp only [ep, e3, e4, cond_true, vget_nat, h0, decide_true, pairOk, impl_compareHolds, impl_compareHolds_f]
        generalize fld l i 0 = a0 at *
        generalize fld l i 1 = a1 at *
        generalize fld l i 2 = a2 at *
        generalize fld l (i - 1) 0 = b0 at *
        generalize fld l (i - 1) 1 = b1 at *
        generalize fld l (i - 1) 2 = b2 at *
        have s1 : std.sub .i64 b1 a1 = b1 - a1 := by rw [std_sub]; exact i64_wrap (by omega) (by omega)
        have s0 : std.sub .i64 b0 a0 = b0 - a0 := by rw [std_sub]; exact i64_wrap (by omega) (by omega)
        simp only [s1, s0, std_le, std_eq]
        by_cases e : b1 = a1
        · subst e
          have d1 : decide (b1 < b1) = false := by simp
          have d2 : decide (0 ≤ b0 - a0) = decide (a0 ≤ b0) := by by_cases h : a0 ≤ b0 <;> simp [h] <;> omega
          simp only [beq_self_eq_true, not_true', cond_false, d1, cond_true, d2]
          cases decide (a0 ≤ b0) <;> cases (a2 == 2) <;> cases (b2 == 2) <;> rfl
        · have d0 : (b1 == a1) = false := beq_eq_false_iff_ne.2 e
          have d2 : decide (0 ≤ b1 - a1) = decide (a1 < b1) := by by_cases h : a1 < b1 <;> simp [h] <;> omega
          simp only [d0, not_false', cond_true, d2, cond_false]
          cases decide (a1 < b1) <;> rfl
      · have e4 : std.lt 0 (i : Int) = false := by rw [std_lt]; exact decide_eq_false (by omega)
        simp only [e4, cond_false, h0, decide_false, cond_true]
theorem HoldsOk_val (l : List (List Int)) (hb : l.length ≤ 2147483648) (k : Bool → R) : spec_HoldsOk std l k = k (holdsOk l) := by
  unfold spec_HoldsOk spec_HoldsOk_f holdsOk
  generalize hN : std.fuel = N
  have hN : 4294967296 = N := hN
  refine (HoldsOk_go l hb (fun t => k t) (fun _ => k true) l.length N 0 (by omega) (by omega)).trans ?_
  cases holdsGo l l.length 0 <;> rfl
theorem HoldsOk_eq (l : List (List Int)) (hb : l.length ≤ 2147483648) (k : Bool → R) : impl_HoldsOk std l k = k (holdsOk l) := by
  unfold impl_HoldsOk impl_HoldsOk_f holdsOk
  generalize hN : std.fuel = N
  have hN : 4294967296 = N := hN
  refine (HoldsOk_go2 l hb (fun t => k t) (fun _ => k true) l.length N 0 (by omega) (by omega) (fun h => by omega)).trans ?_
  cases holdsGo l l.length 0 <;> rfl
theorem HoldsOk_true (l : List (List Int)) (b : FitArr cx (.vecs 73 3 l)) (k : Bool → R) : laws_FnExactHoldsOk std l k = k true := by
  unfold laws_FnExactHoldsOk laws_FnExactHoldsOk_f
  rw [szHoldS_eq l 1048576 (by omega) (by omega) b.1]
  by_cases hl : (1048576 : Int) - l.length < 0
  · simp [hl]
  · have h : l.length ≤ 2147483648 := by omega
    have hw : ∀ r ∈ l, r.length = 3 := fun r hr => (b.2 r hr).1
    have e0 : std.lt (1048576 - (l.length : Int)) 0 = false := by rw [std_lt]; exact decide_eq_false hl
    simp only [hl, if_false, e0, cond_false, toHoldS_eq l h hw, HoldsOk_val l h, HoldsOk_eq l h, eqHoldS1 l h, beq_self, not_true']

/-! ## HoldOf -/
def modeGo (l : List (List Int)) (who what : Int) : Nat → Nat → Int
  | 0, _ => 0
  | m + 1, i => bif fld l i 0 == who then (bif fld l i 1 == what then fld l i 2 else modeGo l who what m (i + 1)) else modeGo l who what m (i + 1)
theorem HoldOf_go (c37 : spec_HoldsOk_T) (c39 : impl_HoldsOk_T) (l : List (List Int)) (hb : l.length ≤ 2147483648) (who what : Int) (k : Int → R) : ∀ (m N i : Nat), i + m = l.length → m < N →
    spec_HoldOf_l0 std c37 N l who what i (fun t => k t) (fun _ => k 0) = k (modeGo l who what m i) ∧ impl_HoldOf_l0 std c39 N who what l l.length i (fun t => k t) (fun _ => k 0) = k (modeGo l who what m i)
  | 0, N + 1, i, hi, hn => by
    unfold spec_HoldOf_l0 impl_HoldOf_l0
    have e1 : std.lt (i : Int) (l.length : Int) = false := by rw [lt_nat]; exact decide_eq_false (by omega)
    simp only [std_vlen, e1, cond_false, modeGo, and_self]
  | m + 1, N + 1, i, hi, hn => by
    unfold spec_HoldOf_l0 impl_HoldOf_l0 modeGo
    have e1 : std.lt (i : Int) (l.length : Int) = true := by rw [lt_nat]; exact decide_eq_true (by omega)
    have e2 : std.inb (i : Int) (l.length : Int) = true := by rw [inb_nat]; exact decide_eq_true (by omega)
    have ih := HoldOf_go c37 c39 l hb who what k m N (i + 1) (by omega) (by omega)
    have ei : std.add .i64 (i : Int) 1 = ((i + 1 : Nat) : Int) := by rw [std_add]; exact cast1 i (by omega)
    simp only [std_vlen, e1, e2, cond_true, vget_nat, ei, ih.1, ih.2, std_eq]
    cases (fld l i 0 == who) <;> cases (fld l i 1 == what) <;> exact ⟨rfl, rfl⟩
def holdOf (l : List (List Int)) (who what : Int) : Int := bif holdsOk l then modeGo l who what l.length 0 else 0
theorem HoldOf_at (c37 : spec_HoldsOk_T) (c39 : impl_HoldsOk_T) (l : List (List Int)) (hb : l.length ≤ 2147483648) (h1 : ∀ k, c37 l k = k (holdsOk l)) (h2 : ∀ k, c39 l k = k (holdsOk l)) (who what : Int) (k : Int → R) :
    spec_HoldOf_f std c37 l who what k = k (holdOf l who what) ∧ impl_HoldOf_f std c39 l who what k = k (holdOf l who what) := by
  have p := fun N hN => HoldOf_go c37 c39 l hb who what k l.length N 0 (by omega) hN
  unfold spec_HoldOf_f impl_HoldOf_f holdOf
  rw [h1, h2]
  generalize hN : std.fuel = N
  have hN : 4294967296 = N := hN
  have p := p N (by omega)
  cases holdsOk l
  · exact ⟨rfl, rfl⟩
  · refine ⟨?_, ?_⟩
    · simp only [not_true', cond_false, cond_true]
      refine Eq.trans ?_ (p.1.trans ?_)
      · rfl
      · rfl
    · simp only [not_true', cond_false, cond_true]
      refine Eq.trans ?_ (p.2.trans ?_)
      · rfl
      · rfl
theorem HoldOf_val (l : List (List Int)) (hb : l.length ≤ 2147483648) (who what : Int) (k : Int → R) : spec_HoldOf std l who what k = k (holdOf l who what) ∧ impl_HoldOf std l who what k = k (holdOf l who what) :=
  HoldOf_at _ _ l hb (HoldsOk_val l hb) (HoldsOk_eq l hb) who what k
theorem HoldOf_true (l : List (List Int)) (who what : Int) (b : FitArr cx (.vecs 73 3 l)) (b1 : IntKind.i64.min ≤ who ∧ who ≤ IntKind.i64.max) (b2 : IntKind.i64.min ≤ what ∧ what ≤ IntKind.i64.max) (k : Bool → R) : laws_FnExactHoldOf std l who what k = k true := by
  unfold laws_FnExactHoldOf laws_FnExactHoldOf_f
  rw [szHoldS_eq l 1048576 (by omega) (by omega) b.1]
  by_cases hl : (1048576 : Int) - l.length < 0
  · simp [hl]
  · have h : l.length ≤ 2147483648 := by omega
    have hw : ∀ r ∈ l, r.length = 3 := fun r hr => (b.2 r hr).1
    have e0 : std.lt (1048576 - (l.length : Int)) 0 = false := by rw [std_lt]; exact decide_eq_false hl
    simp only [hl, if_false, e0, cond_false, toHoldS_eq l h hw, (HoldOf_val l h _ _ _).1, (HoldOf_val l h _ _ _).2, eqHoldS1 l h, eq_self, not_true']
end X
