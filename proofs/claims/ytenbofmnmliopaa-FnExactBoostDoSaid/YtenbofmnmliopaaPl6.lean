/- Models of the functions, or plain laws about them; each theorem states its own conditions. -/
import Derived.Test.YtenbofmnmliopaaPl5
set_option linter.unusedVariables false
set_option linter.unusedSimpArgs false
open Go.Proofs
namespace X
open PM Go

theorem slotsGo_range (l : List Int) : ∀ (m i : Nat) (o : List Bool), slotsGo l m i o = true → ∀ j, i ≤ j → j < i + m → 0 ≤ l.getD j 0 ∧ l.getD j 0 ≤ 524288
  | 0, i, o, _, j, h1, h2 => by omega
  | m + 1, i, o, h, j, h1, h2 => by
    unfold slotsGo at h
    by_cases e0 : l.getD i 0 = 0
    · simp only [e0, decide_true, cond_true] at h
      by_cases e : i = j
      · subst e; omega
      · exact slotsGo_range l m (i + 1) o h j (by omega) (by omega)
    · simp only [e0, decide_false, cond_false] at h
      by_cases e1 : 1 ≤ l.getD i 0 ∧ l.getD i 0 ≤ 524288
      · simp only [e1, and_self, decide_true, cond_true] at h
        by_cases e : i = j
        · subst e; omega
        · revert h
          cases o.getD (slotKey (l.getD i 0)).toNat false
          · by_cases e2 : bucket (slotKey (l.getD i 0)) = (i : Int).tdiv 4
            · simp only [e2, decide_true, cond_true, cond_false]
              exact fun h => slotsGo_range l m (i + 1) _ h j (by omega) (by omega)
            · simp only [e2, decide_false, cond_false]
              intro h; cases h
          · simp only [cond_true]
            intro h; cases h
      · simp only [e1, decide_false, cond_false] at h
        cases h
theorem slotsOk_spec {l : List Int} (h : slotsOk l = true) : l.length = 16 ∧ ∀ j, j < 16 → 0 ≤ l.getD j 0 ∧ l.getD j 0 ≤ 524288 := by
  unfold slotsOk at h
  rw [Bool.and_eq_true, decide_eq_true_eq] at h
  exact ⟨h.1, fun j hj => slotsGo_range l 16 0 _ h.2 j (by omega) (by omega)⟩

/-- Where the key lies. -/
def atGo (l : List Int) (key : Int) : Nat → Nat → Option Nat
  | 0, _ => none
  | m + 1, i => bif decide (1 ≤ l.getD i 0) then (bif decide (slotKey (l.getD i 0) = key) then some i else atGo l key m (i + 1)) else atGo l key m (i + 1)
theorem atGo_some (l : List Int) (key : Int) : ∀ (m i j : Nat), atGo l key m i = some j → i ≤ j ∧ j < i + m ∧ 1 ≤ l.getD j 0 ∧ slotKey (l.getD j 0) = key
  | 0, i, j, h => by cases h
  | m + 1, i, j, h => by
    unfold atGo at h
    by_cases h1 : 1 ≤ l.getD i 0
    · simp only [h1, decide_true, cond_true] at h
      by_cases h2 : slotKey (l.getD i 0) = key
      · simp only [h2, decide_true, cond_true, Option.some.injEq] at h
        subst h
        exact ⟨by omega, by omega, h1, h2⟩
      · simp only [h2, decide_false, cond_false] at h
        obtain ⟨a, b, c⟩ := atGo_some l key m (i + 1) j h
        exact ⟨by omega, by omega, c⟩
    · simp only [h1, decide_false, cond_false] at h
      obtain ⟨a, b, c⟩ := atGo_some l key m (i + 1) j h
      exact ⟨by omega, by omega, c⟩
def got {α : Type} (o : Option Nat) (kret : Int → α) (kx : Unit → α) : α := match o with | some j => kret (j : Int) | none => kx ()

theorem slot_val {s : Int} (h1 : 1 ≤ s) (h2 : s ≤ 524288) (k : Int → Int → R) : spec_l15Slot std s k = k (slotKey s) ((s - 1).tmod 65536) := by
  obtain ⟨w1, w2, _⟩ := slot_range (s := s) (by omega) (by omega) h2
  have hs0' : (s == 0) = false := by simpa using show s ≠ 0 by omega
  simp [spec_l15Slot, spec_l15Slot_f, hs0', w1, w2, slotKey]
theorem slot_zero (k : Int → Int → R) : spec_l15Slot std 0 k = k (-1) 0 := by simp [spec_l15Slot, spec_l15Slot_f]
theorem keyIn_val {s : Int} (h1 : 1 ≤ s) (h2 : s ≤ 524288) (k : Int → R) : impl_keyIn std s k = k (slotKey s) := by
  obtain ⟨w1, w2, _⟩ := slot_range (s := s) (by omega) (by omega) h2
  simp [impl_keyIn, impl_keyIn_f, w1, w2, slotKey]

theorem l15At_go (l : List Int) (hl : l.length = 16) (hr : ∀ j, j < 16 → 0 ≤ l.getD j 0 ∧ l.getD j 0 ≤ 524288) (key : Int) (hk : 0 ≤ key) (kret : Int → R) (kx : Unit → R) : ∀ (m n i : Nat), i + m = 16 → m < n →
    spec_l15At_l0 std (spec_l15Slot std) n l key i kret kx = got (atGo l key m i) kret kx
  | 0, n + 1, i, hi, hn => by
    unfold spec_l15At_l0
    have : std.lt (i : Int) (l.length : Int) = false := by rw [lt_nat]; simp; omega
    simp only [std_ilen, this, cond_false, atGo, got]
  | m + 1, n + 1, i, hi, hn => by
    unfold spec_l15At_l0 atGo
    have e1 : std.lt (i : Int) (l.length : Int) = true := by rw [lt_nat]; simp; omega
    have e2 : std.inb (i : Int) (l.length : Int) = true := by rw [inb_nat]; simp; omega
    have ih := l15At_go l hl hr key hk kret kx m n (i + 1) (by omega) (by omega)
    have hri := hr i (by omega)
    simp only [std_ilen, e1, e2, cond_true, std_iget, Int.toNat_natCast, std_add, cast1 i (by omega), ih]
    generalize l.getD i 0 = s at hri
    by_cases h1 : 1 ≤ s
    · simp only [slot_val h1 hri.2, std_eq, std_le, hk, h1, decide_true, cond_true]
      by_cases h2 : slotKey s = key
      · simp only [h2, beq_self_eq_true, decide_true, cond_true, got]
      · simp only [beq_eq_false_iff_ne.2 h2, h2, decide_false, cond_false]
    · have h0 : s = 0 := by omega
      subst h0
      have : ((-1 : Int) == key) = false := beq_eq_false_iff_ne.2 (by omega)
      simp only [slot_zero, std_eq, this, cond_false, h1, decide_false]
theorem find_go (l : List Int) (hl : l.length = 16) (hr : ∀ j, j < 16 → 0 ≤ l.getD j 0 ∧ l.getD j 0 ≤ 524288) (key : Int) (kret : Int → R) (kx : Unit → R) : ∀ (m n i : Nat), i + m = 16 → m < n →
    impl_find_l0 std (impl_keyIn std) n key l 16 i kret kx = got (atGo l key m i) kret kx
  | 0, n + 1, i, hi, hn => by
    unfold impl_find_l0
    have : std.lt (i : Int) 16 = false := by rw [show (16 : Int) = ((16 : Nat) : Int) from rfl, lt_nat]; simp; omega
    simp only [this, cond_false, atGo, got]
  | m + 1, n + 1, i, hi, hn => by
    unfold impl_find_l0 atGo
    have e1 : std.lt (i : Int) 16 = true := by rw [show (16 : Int) = ((16 : Nat) : Int) from rfl, lt_nat]; simp; omega
    have e2 : std.inb (i : Int) (l.length : Int) = true := by rw [inb_nat]; simp; omega
    have ih := find_go l hl hr key kret kx m n (i + 1) (by omega) (by omega)
    have hri := hr i (by omega)
    simp only [std_ilen, e1, e2, cond_true, std_iget, Int.toNat_natCast, std_add, cast1 i (by omega), ih]
    generalize l.getD i 0 = s at hri
    by_cases h1 : 1 ≤ s
    · simp only [keyIn_val h1 hri.2, std_eq, std_lt, show (0 : Int) < s by omega, h1, decide_true, cond_true]
      by_cases h2 : slotKey s = key
      · simp only [h2, beq_self_eq_true, decide_true, cond_true, got]
      · simp only [beq_eq_false_iff_ne.2 h2, h2, decide_false, cond_false]
    · simp only [std_lt, show ¬ (0 : Int) < s by omega, cond_false, h1, decide_false]

def atOf (l : List Int) (key : Int) : Int := got (atGo l key 16 0) (fun j => j) (fun _ => -1)
theorem got_app {α β : Type} (o : Option Nat) (f : α → β) (kret : Int → α) (kx : Unit → α) : f (got o kret kx) = got o (fun j => f (kret j)) (fun u => f (kx u)) := by cases o <;> rfl
theorem l15At_val {l : List Int} (h : slotsOk l = true) {key : Int} (hk : 0 ≤ key) (k : Int → R) : spec_l15At std l key k = k (atOf l key) := by
  obtain ⟨hl, hr⟩ := slotsOk_spec h
  unfold spec_l15At spec_l15At_f atOf
  generalize hN : std.fuel = N
  have hN : 4294967296 = N := hN
  rw [got_app (f := k)]
  exact l15At_go l hl hr key hk _ _ 16 N 0 (by omega) (by omega)
theorem find_val {l : List Int} (h : slotsOk l = true) (key : Int) (k : Int → R) : impl_find std l key k = k (atOf l key) := by
  obtain ⟨hl, hr⟩ := slotsOk_spec h
  unfold impl_find impl_find_f atOf
  generalize hN : std.fuel = N
  have hN : 4294967296 = N := hN
  rw [got_app (f := k)]
  have e0 : std.ilen l = 16 := by rw [std_ilen, hl]; rfl
  rw [e0]
  exact find_go l hl hr key _ _ 16 N 0 (by omega) (by omega)

theorem atOf_cases {l : List Int} (h : slotsOk l = true) (key : Int) : atOf l key = -1 ∨ ∃ j : Nat, atOf l key = j ∧ j < 16 ∧ 1 ≤ l.getD j 0 ∧ l.getD j 0 ≤ 524288 ∧ slotKey (l.getD j 0) = key := by
  obtain ⟨hl, hr⟩ := slotsOk_spec h
  unfold atOf
  cases e : atGo l key 16 0 with
  | none => exact .inl rfl
  | some j =>
    obtain ⟨a, b, c, d⟩ := atGo_some l key 16 0 j e
    exact .inr ⟨j, rfl, by omega, c, (hr j (by omega)).2, d⟩

/-- What SlotGet comes to. -/
def slotGet (l : List Int) (key : Int) : Int × Bool :=
  bif slotsOk l then (bif keyOk key then (bif decide (atOf l key < 0) then (0, false) else ((l.getD (atOf l key).toNat 0 - 1).tmod 65536, true)) else (0, false)) else (0, false)
theorem keyOk_nn {key : Int} (h : keyOk key = true) : 0 ≤ key ∧ key ≤ 7 := by
  unfold keyOk at h
  by_cases h1 : 0 ≤ key
  · simp only [h1, decide_true, cond_true, decide_eq_true_eq] at h; exact ⟨h1, h⟩
  · simp [h1] at h
theorem SlotGet_val (l : List Int) (key : Int) (k : Int → Bool → R) : spec_SlotGet std l key k = k (slotGet l key).1 (slotGet l key).2 := by
  simp only [spec_SlotGet, spec_SlotGet_f, SlotsOk_val, key_val, slotGet]
  cases hs : slotsOk l
  · rfl
  · cases hk : keyOk key
    · rfl
    · have hk0 := (keyOk_nn hk).1
      simp only [std_not, Bool.not_true, cond_false, cond_true, l15At_val hs hk0, std_lt]
      rcases atOf_cases hs key with e | ⟨j, e, j1, j2, j3, j4⟩
      · rw [e]; rfl
      · have e1 : ¬ ((j : Int) < 0) := by omega
        have e2 : std.inb (j : Int) (l.length : Int) = true := by rw [inb_nat, (slotsOk_spec hs).1]; simpa using j1
        simp only [e, e1, decide_false, cond_false, std_ilen, e2, cond_true, std_iget, Int.toNat_natCast, slot_val j2 j3]
theorem SlotGet_eq (l : List Int) (key : Int) (k : Int → Bool → R) : impl_SlotGet std l key k = k (slotGet l key).1 (slotGet l key).2 := by
  simp only [impl_SlotGet, impl_SlotGet_f, SlotsOk_eq, isKey_eq, SlotsOk_val, key_val, slotGet]
  cases hs : slotsOk l
  · rfl
  · cases hk : keyOk key
    · rfl
    · simp only [std_not, Bool.not_true, cond_false, cond_true, find_val hs, std_lt]
      rcases atOf_cases hs key with e | ⟨j, e, j1, j2, j3, j4⟩
      · rw [e]; rfl
      · have e1 : ¬ ((j : Int) < 0) := by omega
        have e2 : std.inb (j : Int) (l.length : Int) = true := by rw [inb_nat, (slotsOk_spec hs).1]; simpa using j1
        have e3 : std.nz 65536 = true := by simp
        have w := (slot_range (s := l.getD j 0) (by omega) (by omega) j3).1
        simp only [e, e1, decide_false, cond_false, std_ilen, e2, cond_true, std_iget, Int.toNat_natCast, e3, std_rem, std_sub, w]
theorem SlotGet_true (l : List Int) (key : Int) (b : FitArr cx (.ints 3 .i64 l)) (bk : IntKind.i64.min ≤ key ∧ key ≤ IntKind.i64.max) (k : Bool → R) : laws_FnExactSlotGet std l key k = k true := by
  unfold laws_FnExactSlotGet laws_FnExactSlotGet_f
  by_cases hl : 1048576 < l.length
  · have : std.lt 1048576 (std.ilen l) = true := by simp; omega
    simp only [this, cond_true]
  · have : std.lt 1048576 (std.ilen l) = false := by simp; omega
    simp only [this, cond_false, toIntS_eq l (by omega), SlotGet_val, SlotGet_eq, eqIntS_eq l l (by omega), std_eq, std_beq, std_not, beq_self_eq_true, Bool.not_true, decide_true]
end X
