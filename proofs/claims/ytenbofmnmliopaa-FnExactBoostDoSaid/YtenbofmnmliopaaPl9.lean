/- Models of the functions, or plain laws about them; each theorem states its own conditions. -/
import Derived.Test.YtenbofmnmliopaaPl8
set_option linter.unusedVariables false
set_option linter.unusedSimpArgs false
open Go.Proofs
namespace X
open PM Go

/-! ## SlotPut -/
def zeroAt (l : List Int) : Nat → Nat → Nat
  | 0, i => i
  | m + 1, i => bif decide (l.getD i 0 = 0) then i else zeroAt l m (i + 1)
theorem zeroAt_lt (l : List Int) : ∀ (m i : Nat), (∃ j, i ≤ j ∧ j < i + m ∧ l.getD j 0 = 0) → i ≤ zeroAt l m i ∧ zeroAt l m i < i + m ∧ l.getD (zeroAt l m i) 0 = 0
  | 0, i, ⟨j, h1, h2, _⟩ => by omega
  | m + 1, i, ⟨j, h1, h2, h3⟩ => by
    by_cases e : l.getD i 0 = 0
    · have hz : zeroAt l (m + 1) i = i := by unfold zeroAt; simp only [e, decide_true, cond_true]
      rw [hz]; exact ⟨by omega, by omega, e⟩
    · have hz : zeroAt l (m + 1) i = zeroAt l m (i + 1) := by conv => lhs; unfold zeroAt; simp only [e, decide_false, cond_false]
      rw [hz]
      have hne : i ≠ j := fun e' => by subst e'; exact e h3
      obtain ⟨a, b, c⟩ := zeroAt_lt l m (i + 1) ⟨j, by omega, by omega, h3⟩
      exact ⟨by omega, by omega, c⟩
theorem put_loops (c70 : spec_l15Key_T) (c20 : spec_BucketOf_T) (c72 : spec_l3Val_T) (c75 : spec_l15Slot_T) (c30 : spec_SlotsOk_T) (c79 : spec_l15At_T) (c83 : spec_l15Ints_T) (d71 : impl_isKey_T) (d21 : impl_BucketOf_T) (d73 : impl_isValue_T) (d77 : impl_slotOf_T) (d32 : impl_SlotsOk_T) (d80 : impl_find_T) (d34 : impl_SlotGet_T) (d84 : impl_copyInts_T) (l : List Int) (hl : l.length = 16) (key v : Int) (kret : Int → Bool → List Int → R) (kx : List Int → R) (kx' : Int → Int → Int → List Int → R) : ∀ (m n i : Nat), i + m = 16 → m < n → (∃ j, i ≤ j ∧ j < i + m ∧ l.getD j 0 = 0) →
    spec_SlotPut_l0 std c70 c20 c72 c75 c30 c79 c83 n l key v i l kret kx =
      kret 0 true (l.set (zeroAt l m i) (std.add .i64 (std.add .i64 1 (std.mul .i64 key 65536)) v)) ∧
    impl_SlotPut_l0 std d71 d21 d73 d77 d32 d80 d34 d84 n key v i l kx' = kx' key v (zeroAt l m i) l
  | 0, n + 1, i, hi, hn, ⟨j, h1, h2, _⟩ => by omega
  | m + 1, n + 1, i, hi, hn, ⟨j, h1, h2, h3⟩ => by
    unfold spec_SlotPut_l0 impl_SlotPut_l0 zeroAt
    have e1 : std.lt (i : Int) (l.length : Int) = true := by rw [lt_nat]; simp; omega
    have e2 : std.inb (i : Int) (l.length : Int) = true := by rw [inb_nat]; simp; omega
    simp only [std_ilen, e1, e2, cond_true, std_iget, std_iset, Int.toNat_natCast, std_eq, std_not]
    by_cases e : l.getD i 0 = 0
    · simp only [e, beq_self_eq_true, decide_true, cond_true, Bool.not_true, cond_false, and_self]
    · have hne : i ≠ j := fun e' => by subst e'; exact e h3
      obtain ⟨a, b⟩ := put_loops c70 c20 c72 c75 c30 c79 c83 d71 d21 d73 d77 d32 d80 d34 d84 l hl key v kret kx kx' m n (i + 1) (by omega) (by omega) ⟨j, by omega, by omega, h3⟩
      have ei : std.add .i64 (i : Int) 1 = ((i + 1 : Nat) : Int) := by rw [std_add]; exact cast1 i (by omega)
      simp only [beq_eq_false_iff_ne.2 e, e, decide_false, cond_false, Bool.not_false, cond_true, ei, a, b, and_self]

def slotPut (l : List Int) (a r : Int) : List Int × Int × Bool :=
  bif slotsOk l then (bif keyOk a then (bif valOk r then
    (bif decide (atOf l a < 0) then (l.set (zeroAt l (16 - (4 * bucket a).toNat) (4 * bucket a).toNat) (1 + a * 65536 + r), 0, true)
     else (l.set (atOf l a).toNat (1 + a * 65536 + r), (l.getD (atOf l a).toNat 0 - 1).tmod 65536 + 1, true))
    else (l, 0, false)) else (l, 0, false)) else (l, 0, false)
theorem slotPut_length (l : List Int) (a r : Int) : (slotPut l a r).1.length = l.length := by
  unfold slotPut
  cases slotsOk l <;> cases keyOk a <;> cases valOk r <;> cases decide (atOf l a < 0) <;> simp
theorem valOk_nn {x : Int} (h : valOk x = true) : 0 ≤ x ∧ x ≤ 65535 := by
  unfold valOk at h
  by_cases h1 : 0 ≤ x
  · simp only [h1, decide_true, cond_true, decide_eq_true_eq] at h; exact ⟨h1, h⟩
  · simp [h1] at h
theorem put_word {a r : Int} (ha : 0 ≤ a ∧ a ≤ 7) (hr : 0 ≤ r ∧ r ≤ 65535) : std.add .i64 (std.add .i64 1 (std.mul .i64 a 65536)) r = 1 + a * 65536 + r := by
  have w1 : IntKind.i64.wrap (a * 65536) = a * 65536 := i64_wrap (by omega) (by omega)
  have w2 : IntKind.i64.wrap (1 + a * 65536) = 1 + a * 65536 := i64_wrap (by omega) (by omega)
  have w3 : IntKind.i64.wrap (1 + a * 65536 + r) = 1 + a * 65536 + r := i64_wrap (by omega) (by omega)
  simp only [std_add, std_mul, w1, w2, w3]
theorem slotOf_val {a r : Int} (ha : 0 ≤ a ∧ a ≤ 7) (hr : 0 ≤ r ∧ r ≤ 65535) (k : Int → R) : impl_slotOf std a r k = k (1 + a * 65536 + r) := by
  have := put_word ha hr
  simp only [std_mul] at this
  simp only [impl_slotOf, impl_slotOf_f, std_mul, Int.mul_comm 65536 a, this]
theorem tmod_wrap {s : Int} (h1 : 1 ≤ s) (h2 : s ≤ 524288) : IntKind.i64.wrap ((s - 1).tmod 65536 + 1) = (s - 1).tmod 65536 + 1 := by
  have : (s - 1).tmod 65536 = (s - 1) % 65536 := Int.tmod_eq_emod_of_nonneg (by omega)
  rw [this]
  exact i64_wrap (by omega) (by omega)
theorem bucket_range {key : Int} (h : keyOk key = true) : 0 ≤ bucket key ∧ bucket key < 4 := by
  have h := keyOk_nn h
  rw [bucket_eq4 h.1 (by omega)]
  omega

theorem SlotPut_val (l : List Int) (h : l.length ≤ 2147483648) (a r : Int) (k : List Int → Int → Bool → R) :
    spec_SlotPut std l a r k = k (slotPut l a r).1 (slotPut l a r).2.1 (slotPut l a r).2.2 ∧ impl_SlotPut std l a r k = k (slotPut l a r).1 (slotPut l a r).2.1 (slotPut l a r).2.2 := by
  simp only [spec_SlotPut, spec_SlotPut_f, impl_SlotPut, impl_SlotPut_f, copyInts_eq, SlotsOk_eq, isKey_eq, isValue_eq, l15Ints_eq l h, SlotsOk_val, key_val, val_val, slotPut, SlotGet_eq, slotGet, bucket_eq, bucket_val]
  cases hs : slotsOk l
  · exact ⟨rfl, rfl⟩
  · cases hk : keyOk a
    · exact ⟨rfl, rfl⟩
    · cases hv : valOk r
      · exact ⟨rfl, rfl⟩
      · have hk0 := keyOk_nn hk
        have hv0 := valOk_nn hv
        obtain ⟨hl, hr⟩ := slotsOk_spec hs
        simp only [std_not, Bool.not_true, cond_false, cond_true, l15At_val hs hk0.1, find_val hs, std_le]
        rcases atOf_cases hs a with e | ⟨j, e, j1, j2, j3, j4⟩
        · have e0 : ¬ ((0 : Int) ≤ -1) := by omega
          have e1 : decide ((-1 : Int) < 0) = true := by simp
          obtain ⟨b1, b2⟩ := bucket_range hk
          have w : std.mul .i64 4 (bucket a) = (((4 * bucket a).toNat : Nat) : Int) := by
            rw [std_mul, i64_wrap (by omega) (by omega)]; omega
          obtain ⟨q, q1, q2, q3⟩ := free_slot hs hk0.1 hk0.2 (by omega)
          simp only [e, e0, decide_false, cond_false, e1, cond_true, w]
          generalize hN : std.fuel = N
          have hN : 4294967296 = N := hN
          have hex : ∃ j, (4 * bucket a).toNat ≤ j ∧ j < (4 * bucket a).toNat + (16 - (4 * bucket a).toNat) ∧ l.getD j 0 = 0 := ⟨q, by omega, by omega, q3⟩
          obtain ⟨z1, z2, z3⟩ := zeroAt_lt l (16 - (4 * bucket a).toNat) (4 * bucket a).toNat hex
          refine ⟨?_, ?_⟩
          · refine (put_loops _ _ _ _ _ _ _ (impl_isKey std) (impl_BucketOf std) (impl_isValue std) (impl_slotOf std) (impl_SlotsOk std) (impl_find std) (impl_SlotGet std) (impl_copyInts std) l hl a r _ _ (fun _ _ _ _ => none) (16 - (4 * bucket a).toNat) N (4 * bucket a).toNat (by omega) (by omega) hex).1.trans ?_
            rw [put_word hk0 hv0]
          · refine (put_loops (spec_l15Key std) (spec_BucketOf std) (spec_l3Val std) (spec_l15Slot std) (spec_SlotsOk std) (spec_l15At std) (spec_l15Ints std) _ _ _ _ _ _ _ _ l hl a r (fun _ _ _ => none) (fun _ => none) _ (16 - (4 * bucket a).toNat) N (4 * bucket a).toNat (by omega) (by omega) hex).2.trans ?_
            have e2 : std.inb ((zeroAt l (16 - (4 * bucket a).toNat) (4 * bucket a).toNat : Nat) : Int) (l.length : Int) = true := by rw [inb_nat]; exact decide_eq_true (by omega)
            simp only [slotOf_val hk0 hv0, std_ilen, e2, cond_true, std_iset, Int.toNat_natCast]
        · have e0 : ((0 : Int) ≤ (j : Int)) := Int.natCast_nonneg j
          have e1 : decide ((j : Int) < 0) = false := decide_eq_false (by omega)
          have e2 : std.inb (j : Int) (l.length : Int) = true := by rw [inb_nat, hl]; simpa using j1
          simp only [e, e0, decide_true, cond_true, e1, cond_false, std_ilen, e2, std_iget, std_iset, Int.toNat_natCast, slot_val j2 j3, put_word hk0 hv0, slotOf_val hk0 hv0]
          simp only [std_add, Int.add_comm 1 ((l.getD j 0 - 1).tmod 65536), tmod_wrap j2 j3, and_self]
theorem SlotPut_true (l : List Int) (a r : Int) (b : FitArr cx (.ints 3 .i64 l)) (b1 : IntKind.i64.min ≤ a ∧ a ≤ IntKind.i64.max) (b2 : IntKind.i64.min ≤ r ∧ r ≤ IntKind.i64.max) (k : Bool → R) : laws_FnExactSlotPut std l a r k = k true := by
  unfold laws_FnExactSlotPut laws_FnExactSlotPut_f
  by_cases hl : 1048576 < l.length
  · have : std.lt 1048576 (std.ilen l) = true := by simp; omega
    simp only [this, cond_true]
  · have e0 : std.lt 1048576 (std.ilen l) = false := by simp; omega
    have h : l.length ≤ 2147483648 := by omega
    have hr : (slotPut l a r).1.length ≤ 2147483648 := by rw [slotPut_length]; exact h
    simp only [e0, cond_false, toIntS_eq l h, (SlotPut_val l h a r _).1, (SlotPut_val l h a r _).2, eqInt1 _ hr, eqInt1 l h, mark1 _ hr, mark1 l h, held1 _ hr, pos1, eq_self, beq_self, not_true']

/-! ## SlotsFrom -/
def mapIn (m : List Int) : Nat → Nat → Bool
  | 0, _ => true
  | n + 1, i => bif decide (0 ≤ m.getD i 0 ∧ m.getD i 0 ≤ 65536) then mapIn m n (i + 1) else false
def fromGo (m : List Int) : Nat → Nat → List Int → List Int
  | 0, _, o => o
  | n + 1, i, o => bif decide (0 < m.getD i 0) then fromGo m n (i + 1) (slotPut o i (m.getD i 0 - 1)).1 else fromGo m n (i + 1) o
def slotsFrom (m : List Int) : List Int := bif decide (m.length = 8) then (bif mapIn m 8 0 then fromGo m 8 0 (List.replicate 16 0) else []) else []
theorem fromGo_length (m : List Int) : ∀ (n i : Nat) (o : List Int), (fromGo m n i o).length = o.length
  | 0, _, o => rfl
  | n + 1, i, o => by
    unfold fromGo
    cases decide (0 < m.getD i 0)
    · simp only [cond_false, fromGo_length]
    · simp only [cond_true, fromGo_length, slotPut_length]
theorem l1In_val (x a b : Int) (k : Bool → R) : spec_l1In std x a b k = k (decide (a ≤ x ∧ x ≤ b)) := by
  simp only [spec_l1In, spec_l1In_f, std_le]
  by_cases h1 : a ≤ x <;> by_cases h2 : x ≤ b <;> simp [h1, h2]
theorem SlotsFrom_go (m : List Int) (hm : m.length = 8) (kret kx : List Int → R) : ∀ (n N i : Nat) (o : List Int), i + n = 8 → n < N → o.length = 16 →
    spec_SlotsFrom_l0 std (spec_l1In std) (spec_SlotNew std) (spec_SlotPut std) N m i o kret kx = bif mapIn m n i then kx (fromGo m n i o) else kret []
  | 0, N + 1, i, o, hi, hn, ho => by
    unfold spec_SlotsFrom_l0
    have : std.lt (i : Int) (m.length : Int) = false := by rw [lt_nat]; simp; omega
    simp only [std_ilen, this, cond_false, mapIn, fromGo, cond_true]
  | n + 1, N + 1, i, o, hi, hn, ho => by
    unfold spec_SlotsFrom_l0 mapIn fromGo
    have e1 : std.lt (i : Int) (m.length : Int) = true := by rw [lt_nat]; simp; omega
    have e2 : std.inb (i : Int) (m.length : Int) = true := by rw [inb_nat]; simp; omega
    have ih := fun o ho => SlotsFrom_go m hm kret kx n N (i + 1) o (by omega) (by omega) ho
    have ei : std.add .i64 (i : Int) 1 = ((i + 1 : Nat) : Int) := by rw [std_add]; exact cast1 i (by omega)
    simp only [std_ilen, e1, e2, cond_true, std_iget, Int.toNat_natCast, ei, l1In_val]
    by_cases hr : 0 ≤ m.getD i 0 ∧ m.getD i 0 ≤ 65536
    · have w : std.sub .i64 (m.getD i 0) 1 = m.getD i 0 - 1 := by rw [std_sub]; exact i64_wrap (by omega) (by omega)
      simp only [hr, and_self, decide_true, std_not, Bool.not_true, cond_false, cond_true, std_lt, w, (SlotPut_val o (by omega) _ _ _).1]
      by_cases h0 : 0 < m.getD i 0
      · simp only [h0, decide_true, cond_true, ih _ ((slotPut_length _ _ _).trans ho)]
      · simp only [h0, decide_false, cond_false, ih o ho]
    · simp only [hr, decide_false, std_not, Bool.not_false, cond_true, cond_false]
theorem isMap_go (m : List Int) (kret : Bool → R) (kx : List Int → R) (hb : m.length ≤ 2147483648) : ∀ (n N i : Nat), i + n = m.length → n < N →
    impl_isMap_l0 std (spec_l1In std) N m m m.length i kret kx = bif mapIn m n i then kx m else kret false
  | 0, N + 1, i, hi, hn => by
    unfold impl_isMap_l0
    have : std.lt (i : Int) (m.length : Int) = false := by rw [lt_nat]; simp; omega
    simp only [this, cond_false, mapIn, cond_true]
  | n + 1, N + 1, i, hi, hn => by
    unfold impl_isMap_l0 mapIn
    have e1 : std.lt (i : Int) (m.length : Int) = true := by rw [lt_nat]; simp; omega
    have e2 : std.inb (i : Int) (m.length : Int) = true := by rw [inb_nat]; simp; omega
    have ih := isMap_go m kret kx hb n N (i + 1) (by omega) (by omega)
    have ei : std.add .i64 (i : Int) 1 = ((i + 1 : Nat) : Int) := by rw [std_add]; exact cast1 i (by omega)
    simp only [std_ilen, e1, e2, cond_true, std_iget, Int.toNat_natCast, ei, l1In_val]
    cases hd : decide (0 ≤ m.getD i 0 ∧ m.getD i 0 ≤ 65536)
    · simp only [std_not, Bool.not_false, cond_true, cond_false]
    · simp only [std_not, Bool.not_true, cond_false, cond_true, ih]
def isMapB (m : List Int) : Bool := bif mapIn m m.length 0 then decide (m.length = 8) else false
theorem isMap_val (m : List Int) (hb : m.length ≤ 2147483648) (k : Bool → R) : impl_isMap std m k = k (isMapB m) := by
  unfold impl_isMap impl_isMap_f isMapB
  rw [within_eq]
  generalize hN : std.fuel = N
  have hN : 4294967296 = N := hN
  refine (isMap_go m (fun t => k t) (fun l => k (std.eq (std.ilen l) 8)) hb m.length N 0 (by omega) (by omega)).trans ?_
  have : std.eq (std.ilen m) 8 = decide (m.length = 8) := by
    by_cases h : m.length = 8
    · simp [h]
    · have : ((m.length : Int) == 8) = false := beq_eq_false_iff_ne.2 (by omega)
      simp [h, this]
  rw [this]
  cases mapIn m m.length 0 <;> rfl
theorem from_go2 (m : List Int) (hm : m.length = 8) (c85 : impl_isMap_T) (kx : List Int → R) : ∀ (n N i : Nat) (o : List Int), i + n = 8 → n < N → o.length = 16 → mapIn m n i = true →
    impl_SlotsFrom_l0 std (impl_SlotNew std) (impl_SlotPut std) c85 N m 8 i o kx = kx (fromGo m n i o)
  | 0, N + 1, i, o, hi, hn, ho, _ => by
    unfold impl_SlotsFrom_l0
    have : std.lt (i : Int) 8 = false := by rw [show (8 : Int) = ((8 : Nat) : Int) from rfl, lt_nat]; simp; omega
    simp only [this, cond_false, fromGo]
  | n + 1, N + 1, i, o, hi, hn, ho, hin => by
    unfold mapIn at hin
    unfold impl_SlotsFrom_l0 fromGo
    have e1 : std.lt (i : Int) 8 = true := by rw [show (8 : Int) = ((8 : Nat) : Int) from rfl, lt_nat]; simp; omega
    have e2 : std.inb (i : Int) (m.length : Int) = true := by rw [inb_nat]; simp; omega
    by_cases hr : 0 ≤ m.getD i 0 ∧ m.getD i 0 ≤ 65536
    · simp only [hr, and_self, decide_true, cond_true] at hin
      have ih := fun o ho => from_go2 m hm c85 kx n N (i + 1) o (by omega) (by omega) ho hin
      have ei : std.add .i64 (i : Int) 1 = ((i + 1 : Nat) : Int) := by rw [std_add]; exact cast1 i (by omega)
      have w : std.sub .i64 (m.getD i 0) 1 = m.getD i 0 - 1 := by rw [std_sub]; exact i64_wrap (by omega) (by omega)
      simp only [std_ilen, e1, e2, cond_true, std_iget, Int.toNat_natCast, ei, std_lt, w, (SlotPut_val o (by omega) _ _ _).2]
      by_cases h0 : 0 < m.getD i 0
      · simp only [h0, decide_true, cond_true, ih _ ((slotPut_length _ _ _).trans ho)]
      · simp only [h0, decide_false, cond_false, ih o ho]
    · simp only [hr, decide_false, cond_false] at hin
      cases hin
theorem SlotNew_val (k : List Int → R) : spec_SlotNew std k = k (List.replicate 16 0) := by simp [spec_SlotNew, spec_SlotNew_f]
theorem SlotNew_eq : impl_SlotNew std = spec_SlotNew std := rfl
theorem SlotsFrom_val (m : List Int) (k : List Int → R) : spec_SlotsFrom std m k = k (slotsFrom m) := by
  unfold spec_SlotsFrom spec_SlotsFrom_f slotsFrom
  by_cases hm : m.length = 8
  · have e1 : std.not (std.eq (std.ilen m) 8) = false := by simp [hm]
    simp only [e1, cond_false, SlotNew_val, hm, decide_true, cond_true]
    generalize hN : std.fuel = N
    have hN : 4294967296 = N := hN
    refine (SlotsFrom_go m hm (fun o => k o) (fun o => k o) 8 N 0 (List.replicate 16 0) (by omega) (by omega) (by simp)).trans ?_
    cases mapIn m 8 0 <;> rfl
  · have : ((m.length : Int) == 8) = false := beq_eq_false_iff_ne.2 (by omega)
    have e1 : std.not (std.eq (std.ilen m) 8) = true := by simp [this]
    simp only [e1, cond_true, hm, decide_false, cond_false]
theorem SlotsFrom_eq (m : List Int) (hb : m.length ≤ 2147483648) (k : List Int → R) : impl_SlotsFrom std m k = k (slotsFrom m) := by
  unfold impl_SlotsFrom impl_SlotsFrom_f slotsFrom
  rw [isMap_val m hb]
  by_cases hm : m.length = 8
  · unfold isMapB
    simp only [hm, decide_true, cond_true]
    cases hin : mapIn m 8 0
    · rfl
    · have e0 : std.ilen m = 8 := by rw [std_ilen, hm]; rfl
      simp only [cond_true, std_not, Bool.not_true, cond_false, SlotNew_eq, SlotNew_val, e0]
      generalize hN : std.fuel = N
      have hN : 4294967296 = N := hN
      exact from_go2 m hm _ (fun o => k o) 8 N 0 (List.replicate 16 0) (by omega) (by omega) (by simp) hin
  · have : isMapB m = false := by unfold isMapB; cases mapIn m m.length 0 <;> simp [hm]
    simp only [this, std_not, Bool.not_false, cond_true, hm, decide_false, cond_false]
theorem slotsFrom_length (m : List Int) : (slotsFrom m).length ≤ 16 := by
  unfold slotsFrom
  cases decide (m.length = 8) <;> cases mapIn m 8 0 <;> simp [fromGo_length]
theorem SlotsFrom_true (l : List Int) (b : FitArr cx (.ints 3 .i64 l)) (k : Bool → R) : laws_FnExactSlotsFrom std l k = k true := by
  unfold laws_FnExactSlotsFrom laws_FnExactSlotsFrom_f
  by_cases hl : 1048576 < l.length
  · have : std.lt 1048576 (std.ilen l) = true := by simp; omega
    simp only [this, cond_true]
  · have e0 : std.lt 1048576 (std.ilen l) = false := by simp; omega
    have h : l.length ≤ 2147483648 := by omega
    have hr : (slotsFrom l).length ≤ 2147483648 := Nat.le_trans (slotsFrom_length l) (by omega)
    simp only [e0, cond_false, toIntS_eq l h, SlotsFrom_val, SlotsFrom_eq l h, eqInt1 _ hr, eqInt1 l h, mark1 _ hr, mark1 l h, held1 _ hr, pos1, eq_self, beq_self, not_true']
end X
