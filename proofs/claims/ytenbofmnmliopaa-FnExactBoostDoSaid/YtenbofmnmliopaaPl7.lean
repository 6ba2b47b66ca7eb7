/- Models of the functions, or plain laws about them; each theorem states its own conditions. -/
import Derived.Test.YtenbofmnmliopaaPl6
set_option linter.unusedVariables false
set_option linter.unusedSimpArgs false
open Go.Proofs
namespace X
open PM Go

theorem mark1 (a : List Int) (h : a.length ≤ 2147483648) (k : Int → List Int → R) : laws_markIntS std a 1 k = k (1 + a.length) (ups 1 a.length) :=
  markIntS_eq a 1 (by omega) (by omega) (by omega) k
theorem held1 (m : Nat) (h : m ≤ 2147483648) (k : Int → R) : laws_heldIntS std (ups 1 m) 1 k = k (1 + m) :=
  heldIntS_eq 1 m (by omega) (by omega) (by omega) k
theorem eqInt1 (a : List Int) (h : a.length ≤ 2147483648) (k : Bool → R) : laws_eqIntS std a a k = k true := by
  rw [eqIntS_eq a a (by omega)]; simp
theorem pos1 (m : Nat) : std.lt (1 + (m : Int)) 0 = false := by simp; omega
theorem eq_self (x : Int) : std.eq x x = true := by simp
theorem beq_self (x : Bool) : std.beq x x = true := by simp
theorem not_true' : std.not true = false := rfl
theorem not_false' : std.not false = true := rfl
theorem l15Ints_eq (l : List Int) (h : l.length ≤ 2147483648) (k : List Int → R) : spec_l15Ints std l k = k l := by
  have : std.room (std.ilen []) (std.ilen l) = true := by simp; omega
  simp only [spec_l15Ints, spec_l15Ints_f, this, cond_true, std_iapp, List.nil_append]
theorem copyInts_eq : impl_copyInts std = spec_l15Ints std := rfl

/-! ## SlotDrop -/
def slotDrop (l : List Int) (key : Int) : List Int × Int × Bool :=
  bif slotsOk l then (bif keyOk key then (bif decide (atOf l key < 0) then (l, 0, true) else (l.set (atOf l key).toNat 0, IntKind.i64.wrap ((l.getD (atOf l key).toNat 0 - 1).tmod 65536 + 1), true)) else (l, 0, false)) else (l, 0, false)
theorem slotDrop_length (l : List Int) (key : Int) : (slotDrop l key).1.length = l.length := by
  unfold slotDrop
  cases slotsOk l <;> cases keyOk key <;> cases decide (atOf l key < 0) <;> simp
theorem SlotDrop_val (l : List Int) (h : l.length ≤ 2147483648) (key : Int) (k : List Int → Int → Bool → R) : spec_SlotDrop std l key k = k (slotDrop l key).1 (slotDrop l key).2.1 (slotDrop l key).2.2 := by
  simp only [spec_SlotDrop, spec_SlotDrop_f, l15Ints_eq l h, SlotsOk_val, key_val, slotDrop]
  cases hs : slotsOk l
  · rfl
  · cases hk : keyOk key
    · rfl
    · have hk0 := (keyOk_nn hk).1
      simp only [std_not, Bool.not_true, cond_false, cond_true, l15At_val hs hk0, std_lt]
      rcases atOf_cases hs key with e | ⟨j, e, j1, j2, j3, j4⟩
      · rw [e]; rfl
      · have e1 : ¬ ((j : Int) < 0) := by omega
        have e2 : std.inb (j : Int) (l.length : Int) = true := by rw [inb_nat, (slotsOk_spec hs).1]; simpa using j1
        simp only [e, e1, decide_false, cond_false, std_ilen, e2, cond_true, std_iget, std_iset, Int.toNat_natCast, slot_val j2 j3, std_add, Int.add_comm 1]
theorem SlotDrop_eq (l : List Int) (h : l.length ≤ 2147483648) (key : Int) (k : List Int → Int → Bool → R) : impl_SlotDrop std l key k = k (slotDrop l key).1 (slotDrop l key).2.1 (slotDrop l key).2.2 := by
  simp only [impl_SlotDrop, impl_SlotDrop_f, copyInts_eq, l15Ints_eq l h, SlotsOk_eq, isKey_eq, SlotsOk_val, key_val, slotDrop, SlotGet_eq, slotGet]
  cases hs : slotsOk l
  · rfl
  · cases hk : keyOk key
    · rfl
    · simp only [std_not, Bool.not_true, cond_false, cond_true, find_val hs, std_lt]
      rcases atOf_cases hs key with e | ⟨j, e, j1, j2, j3, j4⟩
      · rw [e]; rfl
      · have e1 : ¬ ((j : Int) < 0) := by omega
        have e2 : std.inb (j : Int) (l.length : Int) = true := by rw [inb_nat, (slotsOk_spec hs).1]; simpa using j1
        simp only [e, e1, decide_false, cond_false, std_ilen, e2, cond_true, std_iset, Int.toNat_natCast, std_add]
theorem SlotDrop_true (l : List Int) (key : Int) (b : FitArr cx (.ints 3 .i64 l)) (bk : IntKind.i64.min ≤ key ∧ key ≤ IntKind.i64.max) (k : Bool → R) : laws_FnExactSlotDrop std l key k = k true := by
  unfold laws_FnExactSlotDrop laws_FnExactSlotDrop_f
  by_cases hl : 1048576 < l.length
  · have : std.lt 1048576 (std.ilen l) = true := by simp; omega
    simp only [this, cond_true]
  · have e0 : std.lt 1048576 (std.ilen l) = false := by simp; omega
    have h : l.length ≤ 2147483648 := by omega
    have hr : (slotDrop l key).1.length ≤ 2147483648 := by rw [slotDrop_length]; exact h
    simp only [e0, cond_false, toIntS_eq l h, SlotDrop_val l h, SlotDrop_eq l h, eqInt1 _ hr, eqInt1 l h, mark1 _ hr, mark1 l h, held1 _ hr, pos1, eq_self, beq_self, not_true']

/-! ## MapOf -/
def mapGo (l : List Int) : Nat → Int → List Int → List Int
  | 0, _, o => o
  | m + 1, key, o => mapGo l m (key + 1) (o ++ [bif (slotGet l key).2 then IntKind.i64.wrap ((slotGet l key).1 + 1) else 0])
theorem mapGo_length (l : List Int) : ∀ (m : Nat) (key : Int) (o : List Int), (mapGo l m key o).length = o.length + m
  | 0, _, o => rfl
  | m + 1, key, o => by rw [mapGo, mapGo_length]; simp; omega
theorem slotGet_zero (l : List Int) (key : Int) (h : (slotGet l key).2 = false) : (slotGet l key).1 = 0 := by
  unfold slotGet at h ⊢
  cases h1 : slotsOk l <;> cases h2 : keyOk key <;> cases h3 : decide (atOf l key < 0) <;> simp_all
def mapOf (l : List Int) : List Int := bif slotsOk l then mapGo l 8 0 [] else []
theorem mapOf_length (l : List Int) : (mapOf l).length ≤ 8 := by
  unfold mapOf
  cases slotsOk l
  · simp
  · simp [mapGo_length]
theorem MapOf_go (l : List Int) (kx : List Int → R) : ∀ (m n i : Nat) (o : List Int), i + m = 8 → m < n → o.length ≤ i →
    spec_MapOf_l0 std (spec_SlotsOk std) (spec_SlotGet std) n l i o kx = kx (mapGo l m i o) ∧ impl_MapOf_l0 std (impl_SlotsOk std) (impl_SlotGet std) n l i o kx = kx (mapGo l m i o)
  | 0, n + 1, i, o, hi, hn, ho => by
    unfold spec_MapOf_l0 impl_MapOf_l0
    have : std.lt (i : Int) 8 = false := by rw [show (8 : Int) = ((8 : Nat) : Int) from rfl, lt_nat]; simp; omega
    simp only [this, cond_false, mapGo, and_self]
  | m + 1, n + 1, i, o, hi, hn, ho => by
    unfold spec_MapOf_l0 impl_MapOf_l0 mapGo
    have e1 : std.lt (i : Int) 8 = true := by rw [show (8 : Int) = ((8 : Nat) : Int) from rfl, lt_nat]; simp; omega
    have ih := fun x => MapOf_go l kx m n (i + 1) (o ++ [x]) (by omega) (by omega) (by simp; omega)
    have hroom : ∀ x : Int, std.room (std.ilen o) (std.ilen [x]) = true := fun x => by simp; omega
    simp only [e1, cond_true, SlotGet_val, SlotGet_eq, hroom, std_iapp, std_add, cast1 i (by omega), (ih _).1, (ih _).2]
    have z := slotGet_zero l i
    have ei : (i : Int) + 1 = ((i + 1 : Nat) : Int) := by omega
    rw [ei]
    cases hg : (slotGet l i).2
    · simp only [cond_false, z hg, and_self]
    · simp only [cond_true, and_self]
theorem MapOf_val (l : List Int) (k : List Int → R) : spec_MapOf std l k = k (mapOf l) := by
  simp only [spec_MapOf, spec_MapOf_f, SlotsOk_val, mapOf]
  cases slotsOk l
  · rfl
  · simp only [std_not, Bool.not_true, cond_false, cond_true]
    generalize hN : std.fuel = N
    have hN : 4294967296 = N := hN
    exact (MapOf_go l (fun o => k o) 8 N 0 [] (by omega) (by omega) (by simp)).1
theorem MapOf_eq (l : List Int) (k : List Int → R) : impl_MapOf std l k = k (mapOf l) := by
  simp only [impl_MapOf, impl_MapOf_f, SlotsOk_eq, SlotsOk_val, mapOf]
  cases slotsOk l
  · rfl
  · simp only [std_not, Bool.not_true, cond_false, cond_true]
    generalize hN : std.fuel = N
    have hN : 4294967296 = N := hN
    exact (MapOf_go l (fun o => k o) 8 N 0 [] (by omega) (by omega) (by simp)).2
theorem MapOf_true (l : List Int) (b : FitArr cx (.ints 3 .i64 l)) (k : Bool → R) : laws_FnExactMapOf std l k = k true := by
  unfold laws_FnExactMapOf laws_FnExactMapOf_f
  by_cases hl : 1048576 < l.length
  · have : std.lt 1048576 (std.ilen l) = true := by simp; omega
    simp only [this, cond_true]
  · have e0 : std.lt 1048576 (std.ilen l) = false := by simp; omega
    have h : l.length ≤ 2147483648 := by omega
    have hr : (mapOf l).length ≤ 2147483648 := Nat.le_trans (mapOf_length l) (by omega)
    simp only [e0, cond_false, toIntS_eq l h, MapOf_val, MapOf_eq, eqInt1 _ hr, eqInt1 l h, mark1 _ hr, mark1 l h, held1 _ hr, pos1, eq_self, beq_self, not_true']
end X
