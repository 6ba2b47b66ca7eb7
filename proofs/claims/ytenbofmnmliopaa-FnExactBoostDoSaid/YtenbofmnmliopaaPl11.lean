/- Models of the functions, or plain laws about them; each theorem states its own conditions. -/
import Derived.Test.YtenbofmnmliopaaPl10
set_option linter.unusedVariables false
set_option linter.unusedSimpArgs false
open Go.Proofs
namespace X
open PM Go

noncomputable def opOk (a b c d : Int) : Bool := (det_OpOk a b c d).choose
theorem OpOk_val (a b c d : Int) (k : Bool → R) : spec_OpOk std a b c d k = k (opOk a b c d) := (det_OpOk a b c d).choose_spec k
def regOk (x : Int) : Bool := decide (0 ≤ x ∧ x ≤ 3)
theorem reg_val (x : Int) (k : Bool → R) : spec_l4Reg std x k = k (regOk x) := l1In_val x 0 3 k
def kOk (x : Int) : Bool := decide (0 ≤ x ∧ x ≤ 7)
theorem opOk_of {a b c d : Int} {r : Bool} (h : ∀ k : Bool → R, spec_OpOk std a b c d k = k r) : opOk a b c d = r := by
  have := (OpOk_val a b c d (fun b => some (.bool b))).symm.trans (h _)
  simpa using this
theorem op12 (b c d : Int) : opOk 12 b c d = bif kOk b then (bif regOk c then regOk d else false) else false := by
  refine opOk_of fun k => ?_
  unfold spec_OpOk spec_OpOk_f
  simp only [std_eq, show (((12 : Int) == 1)) = false from rfl, show (((12 : Int) == 2)) = false from rfl, show (((12 : Int) == 3)) = false from rfl, show (((12 : Int) == 4)) = false from rfl, show (((12 : Int) == 5)) = false from rfl, show (((12 : Int) == 6)) = false from rfl, show (((12 : Int) == 7)) = false from rfl, show (((12 : Int) == 8)) = false from rfl, show (((12 : Int) == 15)) = false from rfl, show (((12 : Int) == 16)) = false from rfl, show (((12 : Int) == 9)) = false from rfl, show (((12 : Int) == 10)) = false from rfl, show (((12 : Int) == 11)) = false from rfl, show (((12 : Int) == 12)) = true from rfl, show (((12 : Int) == 13)) = false from rfl, show (((12 : Int) == 14)) = false from rfl, cond_true, cond_false, l1In_val, reg_val, kOk]
  cases decide (0 ≤ b ∧ b ≤ 7) <;> cases regOk c <;> cases regOk d <;> rfl
theorem op14 (b c d : Int) : opOk 14 b c d = bif kOk b then (bif regOk c then d == 0 else false) else false := by
  refine opOk_of fun k => ?_
  unfold spec_OpOk spec_OpOk_f
  simp only [std_eq, show (((14 : Int) == 1)) = false from rfl, show (((14 : Int) == 2)) = false from rfl, show (((14 : Int) == 3)) = false from rfl, show (((14 : Int) == 4)) = false from rfl, show (((14 : Int) == 5)) = false from rfl, show (((14 : Int) == 6)) = false from rfl, show (((14 : Int) == 7)) = false from rfl, show (((14 : Int) == 8)) = false from rfl, show (((14 : Int) == 15)) = false from rfl, show (((14 : Int) == 16)) = false from rfl, show (((14 : Int) == 9)) = false from rfl, show (((14 : Int) == 10)) = false from rfl, show (((14 : Int) == 11)) = false from rfl, show (((14 : Int) == 12)) = false from rfl, show (((14 : Int) == 13)) = false from rfl, show (((14 : Int) == 14)) = true from rfl, cond_true, cond_false, l1In_val, reg_val, kOk]
  cases decide (0 ≤ b ∧ b ≤ 7) <;> cases regOk c <;> rfl
theorem op13 (b c d : Int) : opOk 13 b c d = bif regOk b then (bif kOk c then d == 0 else false) else false := by
  refine opOk_of fun k => ?_
  unfold spec_OpOk spec_OpOk_f
  simp only [std_eq, show (((13 : Int) == 1)) = false from rfl, show (((13 : Int) == 2)) = false from rfl, show (((13 : Int) == 3)) = false from rfl, show (((13 : Int) == 4)) = false from rfl, show (((13 : Int) == 5)) = false from rfl, show (((13 : Int) == 6)) = false from rfl, show (((13 : Int) == 7)) = false from rfl, show (((13 : Int) == 8)) = false from rfl, show (((13 : Int) == 15)) = false from rfl, show (((13 : Int) == 16)) = false from rfl, show (((13 : Int) == 9)) = false from rfl, show (((13 : Int) == 10)) = false from rfl, show (((13 : Int) == 11)) = false from rfl, show (((13 : Int) == 12)) = false from rfl, show (((13 : Int) == 13)) = true from rfl, show (((13 : Int) == 14)) = false from rfl, cond_true, cond_false, l1In_val, reg_val, kOk]
  cases regOk b <;> cases decide (0 ≤ c ∧ c ≤ 7) <;> rfl
theorem op15 (b c d : Int) : opOk 15 b c d = bif regOk b then (bif c == 0 then d == 0 else false) else false := by
  refine opOk_of fun k => ?_
  unfold spec_OpOk spec_OpOk_f
  simp only [std_eq, show (((15 : Int) == 1)) = false from rfl, show (((15 : Int) == 2)) = false from rfl, show (((15 : Int) == 3)) = false from rfl, show (((15 : Int) == 4)) = false from rfl, show (((15 : Int) == 5)) = false from rfl, show (((15 : Int) == 6)) = false from rfl, show (((15 : Int) == 7)) = false from rfl, show (((15 : Int) == 8)) = false from rfl, show (((15 : Int) == 15)) = true from rfl, show (((15 : Int) == 16)) = false from rfl, show (((15 : Int) == 9)) = false from rfl, show (((15 : Int) == 10)) = false from rfl, show (((15 : Int) == 11)) = false from rfl, show (((15 : Int) == 12)) = false from rfl, show (((15 : Int) == 13)) = false from rfl, show (((15 : Int) == 14)) = false from rfl, cond_true, cond_false, l1In_val, reg_val, kOk]
  cases regOk b <;> cases (c == 0) <;> rfl
theorem op16 (b c d : Int) : opOk 16 b c d = bif regOk b then (bif c == 0 then d == 0 else false) else false := by
  refine opOk_of fun k => ?_
  unfold spec_OpOk spec_OpOk_f
  simp only [std_eq, show (((16 : Int) == 1)) = false from rfl, show (((16 : Int) == 2)) = false from rfl, show (((16 : Int) == 3)) = false from rfl, show (((16 : Int) == 4)) = false from rfl, show (((16 : Int) == 5)) = false from rfl, show (((16 : Int) == 6)) = false from rfl, show (((16 : Int) == 7)) = false from rfl, show (((16 : Int) == 8)) = false from rfl, show (((16 : Int) == 15)) = false from rfl, show (((16 : Int) == 16)) = true from rfl, show (((16 : Int) == 9)) = false from rfl, show (((16 : Int) == 10)) = false from rfl, show (((16 : Int) == 11)) = false from rfl, show (((16 : Int) == 12)) = false from rfl, show (((16 : Int) == 13)) = false from rfl, show (((16 : Int) == 14)) = false from rfl, cond_true, cond_false, l1In_val, reg_val, kOk]
  cases regOk b <;> cases (c == 0) <;> rfl

def backV (key old : Int) : Int × Int × Int := bif old == 0 then (2, key, 0) else (1, key, IntKind.i64.wrap (old - 1))
theorem Back_val (key old : Int) (k : Int → Int → Int → R) : spec_l16Back std key old k = k (backV key old).1 (backV key old).2.1 (backV key old).2.2 := by
  simp only [spec_l16Back, spec_l16Back_f, std_eq, std_sub, backV]
  cases (old == 0) <;> rfl
theorem backTo_eq : impl_backTo std = spec_l16Back std := rfl
theorem Touches_eq : impl_Touches std = spec_Touches std := rfl
def allVal (r : List Int) : Nat → Nat → Bool
  | 0, _ => true
  | n + 1, i => bif valOk (r.getD i 0) then allVal r n (i + 1) else false
def regsOk (r : List Int) : Bool := bif decide (r.length = 4) then allVal r 4 0 else false
theorem l4Regs_go (r : List Int) (hb : r.length ≤ 2147483648) (kret : Bool → R) (kx : Unit → R) : ∀ (n N i : Nat), i + n = r.length → n < N → spec_l4Regs_l0 std (spec_l3Val std) N r i kret kx = bif allVal r n i then kx () else kret false
  | 0, N + 1, i, hi, hn => by
    unfold spec_l4Regs_l0
    have e1 : std.lt (i : Int) (r.length : Int) = false := by rw [lt_nat]; exact decide_eq_false (by omega)
    simp only [std_ilen, e1, cond_false, allVal, cond_true]
  | n + 1, N + 1, i, hi, hn => by
    unfold spec_l4Regs_l0 allVal
    have e1 : std.lt (i : Int) (r.length : Int) = true := by rw [lt_nat]; exact decide_eq_true (by omega)
    have e2 : std.inb (i : Int) (r.length : Int) = true := by rw [inb_nat]; exact decide_eq_true (by omega)
    have ih := l4Regs_go r hb kret kx n N (i + 1) (by omega) (by omega)
    simp only [std_ilen, e1, e2, cond_true, std_iget, Int.toNat_natCast, std_add, cast1 i (by omega), val_val]
    cases valOk (r.getD i 0)
    · simp only [std_not, Bool.not_false, cond_true, cond_false]
    · simp only [std_not, Bool.not_true, cond_true, cond_false, ih]
theorem areValues_go (r : List Int) (m : Int) (hb : r.length ≤ 2147483648) (kret : Bool → R) (kx : List Int → Int → R) : ∀ (n N i : Nat), i + n = r.length → n < N → impl_areValues_l0 std (spec_l3Val std) N r m r r.length i kret kx = bif allVal r n i then kx r m else kret false
  | 0, N + 1, i, hi, hn => by
    unfold impl_areValues_l0
    have e1 : std.lt (i : Int) (r.length : Int) = false := by rw [lt_nat]; exact decide_eq_false (by omega)
    simp only [e1, cond_false, allVal, cond_true]
  | n + 1, N + 1, i, hi, hn => by
    unfold impl_areValues_l0 allVal
    have e1 : std.lt (i : Int) (r.length : Int) = true := by rw [lt_nat]; exact decide_eq_true (by omega)
    have e2 : std.inb (i : Int) (r.length : Int) = true := by rw [inb_nat]; exact decide_eq_true (by omega)
    have ih := areValues_go r m hb kret kx n N (i + 1) (by omega) (by omega)
    simp only [std_ilen, e1, e2, cond_true, std_iget, Int.toNat_natCast, std_add, cast1 i (by omega), val_val]
    cases valOk (r.getD i 0)
    · simp only [std_not, Bool.not_false, cond_true, cond_false]
    · simp only [std_not, Bool.not_true, cond_true, cond_false, ih]
theorem Regs_val (r : List Int) (hb : r.length ≤ 2147483648) (k : Bool → R) : spec_l4Regs std r k = k (regsOk r) := by
  unfold spec_l4Regs spec_l4Regs_f regsOk
  by_cases h : r.length = 4
  · have e1 : std.not (std.eq (std.ilen r) 4) = false := by simp [h]
    simp only [e1, cond_false, h, decide_true, cond_true]
    generalize hN : std.fuel = N
    have hN : 4294967296 = N := hN
    refine (l4Regs_go r hb (fun t => k t) (fun _ => k true) 4 N 0 (by omega) (by omega)).trans ?_
    cases allVal r 4 0 <;> rfl
  · have : ((r.length : Int) == 4) = false := beq_eq_false_iff_ne.2 (by omega)
    have e1 : std.not (std.eq (std.ilen r) 4) = true := by simp [this]
    simp only [e1, cond_true, h, decide_false, cond_false]
theorem areValues_eq (r : List Int) (hb : r.length ≤ 2147483648) (k : Bool → R) : impl_areValues std r 4 k = k (regsOk r) := by
  unfold impl_areValues impl_areValues_f regsOk
  rw [isValue_eq]
  generalize hN : std.fuel = N
  have hN : 4294967296 = N := hN
  refine (areValues_go r 4 hb (fun t => k t) (fun l n => k (std.eq (std.ilen l) n)) r.length N 0 (by omega) (by omega)).trans ?_
  by_cases h : r.length = 4
  · have e1 : std.eq (std.ilen r) 4 = true := by simp [h]
    simp only [e1, h, decide_true, cond_true]
    cases allVal r 4 0 <;> rfl
  · have : ((r.length : Int) == 4) = false := beq_eq_false_iff_ne.2 (by omega)
    have e1 : std.eq (std.ilen r) 4 = false := by simp [this]
    simp only [e1, h, decide_false, cond_false]
    cases allVal r r.length 0 <;> rfl
theorem regsOk_len {r : List Int} (h : regsOk r = true) : r.length = 4 := by
  unfold regsOk at h
  by_cases e : r.length = 4
  · exact e
  · simp [e] at h
theorem inb4 {x : Int} (h : regOk x = true) : std.inb x 4 = true := by
  unfold regOk at h
  have := of_decide_eq_true h
  rw [std_inb]; exact decide_eq_true (by omega)
end X
