/- Models of the functions, or plain laws about them; each theorem states its own conditions. -/
import Derived.Test.YtnjfchckceaiiaaMdl2
import Derived.Test.YtnjfchckceaiiaaPlM
set_option linter.unusedVariables false
set_option linter.unusedSimpArgs false
open Go.Proofs
namespace X
open PM Go
theorem within_eq : impl_within std = spec_l1In std := rfl
theorem isKey_eq : impl_isKey std = spec_l15Key std := rfl
theorem isValue_eq : impl_isValue std = spec_l3Val std := rfl
theorem det_in (x a b : Int) : Det (spec_l1In std x a b) := det_bif (det_k _) (det_k _)
theorem det_key (x : Int) : Det (spec_l15Key std x) := det_in x 0 7
theorem det_val (x : Int) : Det (spec_l3Val std x) := det_in x 0 65535
theorem SlotBucket (key : Int) (k : Int → R) : impl_BucketOf std key k = spec_BucketOf std key k := by
  simp only [impl_BucketOf, impl_BucketOf_f, spec_BucketOf, spec_BucketOf_f, isKey_eq, std_mul, Int.mul_comm]
theorem bucket_eq : impl_BucketOf std = spec_BucketOf std := by
  funext key k; exact SlotBucket key k
theorem det_bucket (key : Int) : Det (spec_BucketOf std key) := by
  obtain ⟨r, hr⟩ := det_key key
  cases r
  · exact ⟨_, fun k => by simp only [spec_BucketOf, spec_BucketOf_f, hr]; simp only [std_not, Bool.not_false, cond_true]; rfl⟩
  · exact ⟨_, fun k => by simp only [spec_BucketOf, spec_BucketOf_f, hr]; simp only [std_not, Bool.not_true, cond_false, std_nz]; rfl⟩
theorem SlotsOk_l (l : List Int) (hl : l.length = 16) (kret : Bool → R) (kx : Unit → R) : ∀ (n i : Nat) (o : List Bool), i ≤ 16 → o.length = 8 →
    impl_SlotsOk_l0 std (impl_slotOf std) (impl_within std) (impl_keyIn std) (impl_BucketOf std) n l 16 i o kret kx = spec_SlotsOk_l0 std (spec_l1In std) (spec_l15Slot std) (spec_BucketOf std) n l i o kret kx
  | 0, i, o, hi, ho => rfl
  | n + 1, i, o, hi, ho => by
    unfold impl_SlotsOk_l0 spec_SlotsOk_l0
    rw [within_eq, bucket_eq]
    have ih : ∀ (o : List Bool), i < 16 → o.length = 8 → impl_SlotsOk_l0 std (impl_slotOf std) (spec_l1In std) (impl_keyIn std) (spec_BucketOf std) n l 16 ((i + 1 : Nat) : Int) o kret kx = spec_SlotsOk_l0 std (spec_l1In std) (spec_l15Slot std) (spec_BucketOf std) n l ((i + 1 : Nat) : Int) o kret kx := by
      intro o h1 h2
      have := SlotsOk_l l hl kret kx n (i + 1) o (by omega) h2
      rw [within_eq, bucket_eq] at this
      exact this
    simp only [std_ilen, hl]
    have e16 : std.lt (i : Int) 16 = decide (i < 16) := lt_nat i 16
    have e16' : std.lt (i : Int) ((16 : Nat) : Int) = decide (i < 16) := lt_nat i 16
    have f16 : std.inb (i : Int) ((16 : Nat) : Int) = decide (i < 16) := inb_nat i 16
    simp only [e16, e16', f16, std_iget, Int.toNat_natCast, std_add, cast1 i (by omega)]
    by_cases h16 : i < 16
    · simp only [h16, decide_true, cond_true]
      generalize l.getD i 0 = s
      by_cases h0 : s = 0
      · subst h0
        have in0 : ∀ k : Bool → R, spec_l1In std 0 0 524288 k = k true := fun k => by simp [spec_l1In, spec_l1In_f]
        have sl : ∀ k : Int → Int → R, spec_l15Slot std 0 k = k (-1) 0 := fun k => by simp [spec_l15Slot, spec_l15Slot_f]
        have e0 : std.eq 0 0 = true := by simp
        have e1 : std.lt (-1) 0 = true := by simp
        simp only [in0, sl, e0, e1, cond_true, std_not, Bool.not_true, cond_false, ih o h16 ho]
      · have hs0 : std.eq s 0 = false := by simp [h0]
        have hs0' : (s == 0) = false := by simpa using h0
        simp only [hs0, cond_false]
        by_cases hr : 1 ≤ s ∧ s ≤ 524288
        · obtain ⟨w1, w2, w3, w4⟩ := slot_range h0 (by omega) hr.2
          have hb : (decide (0 ≤ (s - 1).tdiv 65536 ∧ (s - 1).tdiv 65536 < (8 : Int))) = true := by simp [w3, w4]
          obtain ⟨b, hb2⟩ := det_bucket ((s - 1).tdiv 65536)
          have key : ∀ k : Int → R, impl_keyIn std s k = k ((s - 1).tdiv 65536) := fun k => by simp [impl_keyIn, impl_keyIn_f, w1, w2]
          have slot : ∀ k : Int → R, impl_slotOf std 7 65535 k = k 524288 := fun k => by
            simp only [impl_slotOf, impl_slotOf_f, std_add, std_mul]
            rfl
          have in1 : ∀ k : Bool → R, spec_l1In std s 1 524288 k = k true := fun k => by simp [spec_l1In, spec_l1In_f, hr]
          have in0 : ∀ k : Bool → R, spec_l1In std s 0 524288 k = k true := fun k => by simp [spec_l1In, spec_l1In_f, hr, show 0 ≤ s by omega]
          have sl : ∀ k : Int → Int → R, spec_l15Slot std s k = k ((s - 1).tdiv 65536) ((s - 1).tmod 65536) := fun k => by simp [spec_l15Slot, spec_l15Slot_f, hs0', w1, w2]
          have ht : (((s - 1).tdiv 65536).toNat : Int) = (s - 1).tdiv 65536 := by omega
          simp only [key, slot, in1, in0, sl, hb2, std_not, Bool.not_true, cond_false, std_lt, std_blen, ho]
          have hlt : ¬ ((s - 1).tdiv 65536 < 0) := by omega
          have hnz : std.nz 4 = true := by simp
          have hinb : std.inb ((s - 1).tdiv 65536) ((8 : Nat) : Int) = true := by simp [w3, w4]
          simp only [hlt, decide_false, cond_false, hnz, cond_true, hinb]
          cases hq : std.bget o ((s - 1).tdiv 65536) <;> cases hbk : std.eq b (std.quo .i64 i 4) <;> simp only [Bool.not_true, Bool.not_false, cond_true, cond_false, List.length_set, std_bset, ih (o.set _ true) h16 (by simpa using ho)]
        · have in1 : ∀ k : Bool → R, spec_l1In std s 1 524288 k = k false := fun k => by
            by_cases h1 : 1 ≤ s
            · have : ¬ s ≤ 524288 := fun h => hr ⟨h1, h⟩
              simp [spec_l1In, spec_l1In_f, h1, this]
            · simp [spec_l1In, spec_l1In_f, h1]
          have in0 : ∀ k : Bool → R, spec_l1In std s 0 524288 k = k false := fun k => by
            by_cases h1 : 0 ≤ s
            · have : ¬ s ≤ 524288 := fun h => hr ⟨by omega, h⟩
              simp [spec_l1In, spec_l1In_f, h1, this]
            · simp [spec_l1In, spec_l1In_f, h1]
          have slot : ∀ k : Int → R, impl_slotOf std 7 65535 k = k 524288 := fun k => by
            simp only [impl_slotOf, impl_slotOf_f, std_add, std_mul]
            rfl
          simp [in1, in0, slot]
    · simp [h16]
theorem SlotsOk_eq (l : List Int) (k : Bool → R) : impl_SlotsOk std l k = spec_SlotsOk std l k := by
  unfold impl_SlotsOk impl_SlotsOk_f spec_SlotsOk spec_SlotsOk_f
  by_cases hl : l.length = 16
  · have e0 : std.ilen l = 16 := by rw [std_ilen, hl]; rfl
    have e1 : std.not (std.eq 16 16) = false := by simp
    have e2 : std.mkOk 8 = true := by simp
    have e3 : std.le 8 8 = true := by simp
    have e4 : std.bzero 8 = List.replicate 8 false := by simp
    simp only [e0, e1, e2, e3, e4, cond_true, cond_false]
    generalize std.fuel = N
    exact SlotsOk_l l hl (fun t => k t) (fun _ => k true) N 0 (List.replicate 8 false) (by omega) (by simp)
  · have : ((l.length : Int) == 16) = false := by simpa using fun e => hl (by omega)
    simp [this]
theorem bucket_val (key : Int) (k : Int → R) : spec_BucketOf std key k = k (bucket key) := by
  unfold bucket
  by_cases h : 0 ≤ key ∧ key < 8
  · have e : ∀ k : Bool → R, spec_l15Key std key k = k true := fun k => by simp [spec_l15Key, spec_l15Key_f, spec_l1In, spec_l1In_f, h, show key ≤ 7 by omega]
    have w1 : IntKind.i64.wrap (key * 7) = key * 7 := i64_wrap (by omega) (by omega)
    have w2 : IntKind.i64.wrap (key * 7 + 3) = key * 7 + 3 := i64_wrap (by omega) (by omega)
    simp only [spec_BucketOf, spec_BucketOf_f, e, h, std_not, Bool.not_true, cond_false, std_nz, std_rem, std_add, std_mul, w1, w2]
    rfl
  · have e : ∀ k : Bool → R, spec_l15Key std key k = k false := fun k => by
      by_cases h1 : 0 ≤ key
      · simp [spec_l15Key, spec_l15Key_f, spec_l1In, spec_l1In_f, h1, show ¬ key ≤ 7 by omega]
      · simp [spec_l15Key, spec_l15Key_f, spec_l1In, spec_l1In_f, h1]
    simp only [spec_BucketOf, spec_BucketOf_f, e, h, std_not, Bool.not_false, cond_true, if_false]
theorem SlotsOk_go (l : List Int) (hl : l.length = 16) (kret : Bool → R) (kx : Unit → R) : ∀ (m n i : Nat) (o : List Bool), i + m = 16 → m < n → o.length = 8 →
    spec_SlotsOk_l0 std (spec_l1In std) (spec_l15Slot std) (spec_BucketOf std) n l i o kret kx = bif slotsGo l m i o then kx () else kret false
  | 0, n + 1, i, o, hi, hn, ho => by
    unfold spec_SlotsOk_l0
    have : std.lt (i : Int) (l.length : Int) = false := by rw [lt_nat]; simp; omega
    simp only [std_ilen, this, cond_false, slotsGo, cond_true]
  | m + 1, n + 1, i, o, hi, hn, ho => by
    unfold spec_SlotsOk_l0
    have e1 : std.lt (i : Int) (l.length : Int) = true := by rw [lt_nat]; simp; omega
    have e2 : std.inb (i : Int) (l.length : Int) = true := by rw [inb_nat]; simp; omega
    have ih := fun o ho => SlotsOk_go l hl kret kx m n (i + 1) o (by omega) (by omega) ho
    simp only [std_ilen, e1, e2, cond_true, std_iget, Int.toNat_natCast, std_add, cast1 i (by omega), slotsGo]
    generalize l.getD i 0 = s
    by_cases h0 : s = 0
    · subst h0
      have in0 : ∀ k : Bool → R, spec_l1In std 0 0 524288 k = k true := fun k => by simp [spec_l1In, spec_l1In_f]
      have sl : ∀ k : Int → Int → R, spec_l15Slot std 0 k = k (-1) 0 := fun k => by simp [spec_l15Slot, spec_l15Slot_f]
      have e1 : std.lt (-1) 0 = true := by simp
      simp only [in0, sl, e1, cond_true, std_not, Bool.not_true, cond_false, ih o ho, decide_true]
    · have hs0' : (s == 0) = false := by simpa using h0
      simp only [h0, decide_false, cond_false]
      by_cases hr : 1 ≤ s ∧ s ≤ 524288
      · obtain ⟨w1, w2, w3, w4⟩ := slot_range h0 (by omega) hr.2
        have in0 : ∀ k : Bool → R, spec_l1In std s 0 524288 k = k true := fun k => by simp [spec_l1In, spec_l1In_f, hr, show 0 ≤ s by omega]
        have sl : ∀ k : Int → Int → R, spec_l15Slot std s k = k ((s - 1).tdiv 65536) ((s - 1).tmod 65536) := fun k => by simp [spec_l15Slot, spec_l15Slot_f, hs0', w1, w2]
        simp only [in0, sl, bucket_val, std_not, Bool.not_true, cond_false, std_lt, std_blen, ho, hr, and_self, decide_true, cond_true, slotKey]
        have hlt : ¬ ((s - 1).tdiv 65536 < 0) := by omega
        have hnz : std.nz 4 = true := by simp
        have hinb : std.inb ((s - 1).tdiv 65536) ((8 : Nat) : Int) = true := by simp [w3, w4]
        have hq4 : IntKind.i64.wrap ((i : Int).tdiv 4) = (i : Int).tdiv 4 := by
          have : (i : Int).tdiv 4 = (i : Int) / 4 := Int.tdiv_eq_ediv_of_nonneg (by omega)
          rw [this]; exact i64_wrap (by omega) (by omega)
        simp only [hlt, decide_false, cond_false, hnz, cond_true, hinb, std_bget, std_eq, std_quo, hq4]
        cases hq : o.getD ((s - 1).tdiv 65536).toNat false
        case true => simp only [cond_true, cond_false]
        case false =>
          simp only [cond_false]
          by_cases hbk : bucket ((s - 1).tdiv 65536) = (i : Int).tdiv 4
          · have : (bucket ((s - 1).tdiv 65536) == (i : Int).tdiv 4) = true := by simpa using hbk
            simp only [hbk, beq_self_eq_true, Bool.not_true, cond_false, decide_true, cond_true, std_bset, ih (o.set _ true) (by simpa using ho)]
          · have : (bucket ((s - 1).tdiv 65536) == (i : Int).tdiv 4) = false := by simpa using hbk
            simp only [this, Bool.not_false, cond_true, hbk, decide_false, cond_false]
      · have in0 : ∀ k : Bool → R, spec_l1In std s 0 524288 k = k false := fun k => by
          by_cases h1 : 0 ≤ s
          · have : ¬ s ≤ 524288 := fun h => hr ⟨by omega, h⟩
            simp [spec_l1In, spec_l1In_f, h1, this]
          · simp [spec_l1In, spec_l1In_f, h1]
        simp only [in0, std_not, Bool.not_false, cond_true, hr, decide_false, cond_false]
theorem SlotsOk_val (l : List Int) (k : Bool → R) : spec_SlotsOk std l k = k (slotsOk l) := by
  unfold spec_SlotsOk spec_SlotsOk_f slotsOk
  by_cases hl : l.length = 16
  · have e0 : std.ilen l = 16 := by rw [std_ilen, hl]; rfl
    have e1 : std.not (std.eq 16 16) = false := by simp
    have e2 : std.mkOk 8 = true := by simp
    have e3 : std.le 8 8 = true := by simp
    have e4 : std.bzero 8 = List.replicate 8 false := by simp
    simp only [e0, e1, e2, e3, e4, cond_true, cond_false, hl, decide_true, Bool.true_and]
    generalize hN : std.fuel = N
    have hN : 4294967296 = N := hN
    refine (SlotsOk_go l hl (fun t => k t) (fun _ => k true) 16 N 0 (List.replicate 8 false) (by omega) (by omega) (by simp)).trans ?_
    cases slotsGo l 16 0 (List.replicate 8 false) <;> rfl
  · have : ((l.length : Int) == 16) = false := by simpa using fun e => hl (by omega)
    simp [this, hl]
theorem val_val (x : Int) (k : Bool → R) : spec_l3Val std x k = k (valOk x) := by
  simp only [spec_l3Val, spec_l3Val_f, spec_l1In, spec_l1In_f, std_le, valOk]
  cases decide (0 ≤ x) <;> rfl
theorem key_val (x : Int) (k : Bool → R) : spec_l15Key std x k = k (keyOk x) := by
  simp only [spec_l15Key, spec_l15Key_f, spec_l1In, spec_l1In_f, std_le, keyOk]
  cases decide (0 ≤ x) <;> rfl
theorem ShelfOk_val (a : List Int) (c : Int) (k : Bool → R) : spec_ShelfOk std a c k = k (shelfOk a c) := by
  simp only [spec_ShelfOk, spec_ShelfOk_f, SlotsOk_val, val_val, shelfOk]
  cases slotsOk a <;> rfl
theorem ShelfOk_eq (a : List Int) (c : Int) (k : Bool → R) : impl_ShelfOk std a c k = spec_ShelfOk std a c k := by
  simp only [spec_ShelfOk, spec_ShelfOk_f, impl_ShelfOk, impl_ShelfOk_f, SlotsOk_eq, isValue_eq]
theorem isReg_eq : impl_isReg std = spec_l4Reg std := rfl
theorem isCell_eq : impl_isCell std = spec_l3Cell std := rfl
theorem OpOk_eq : impl_OpOk std = spec_OpOk std := rfl
theorem det_OpOk (a b c d : Int) : Det (spec_OpOk std a b c d) := by
  have hr : ∀ x, Det (spec_l4Reg std x) := fun x => det_in x _ _
  have hc : ∀ x, Det (spec_l3Cell std x) := fun x => det_in x _ _
  show Det (fun k => spec_OpOk std a b c d k)
  unfold spec_OpOk spec_OpOk_f
  repeat' first
    | exact det_k _
    | exact hr _
    | exact hc _
    | exact det_val _
    | exact det_in _ _ _
    | refine det_bif ?_ ?_
    | refine det_bind (hr _) fun _ => ?_
    | refine det_bind (hc _) fun _ => ?_
    | refine det_bind (det_val _) fun _ => ?_
    | refine det_bind (det_in _ _ _) fun _ => ?_
theorem det_Touches (a b c d : Int) : Det (spec_Touches std a b c d) := by
  show Det (fun k => spec_Touches std a b c d k)
  unfold spec_Touches spec_Touches_f
  repeat' first
    | exact det_k _
    | refine det_bif ?_ ?_
    | refine det_bind (det_OpOk _ _ _ _) fun _ => ?_
theorem slot_val {s : Int} (h1 : 1 ≤ s) (h2 : s ≤ 524288) (k : Int → Int → R) : spec_l15Slot std s k = k (slotKey s) ((s - 1).tmod 65536) := by
  obtain ⟨w1, w2, _⟩ := slot_range (s := s) (by omega) (by omega) h2
  have hs0' : (s == 0) = false := by simpa using show s ≠ 0 by omega
  simp [spec_l15Slot, spec_l15Slot_f, hs0', w1, w2, slotKey]
theorem slot_zero (k : Int → Int → R) : spec_l15Slot std 0 k = k (-1) 0 := by simp [spec_l15Slot, spec_l15Slot_f]
theorem keyIn_val {s : Int} (h1 : 1 ≤ s) (h2 : s ≤ 524288) (k : Int → R) : impl_keyIn std s k = k (slotKey s) := by
  obtain ⟨w1, w2, _⟩ := slot_range (s := s) (by omega) (by omega) h2
  simp [impl_keyIn, impl_keyIn_f, w1, w2, slotKey]
theorem l15At_go (l : List Int) (hl : l.length = 16) (hr : ∀ j, j < 16 → 0 ≤ l.getD j 0 ∧ l.getD j 0 ≤ 524288) (key : Int) (hk : 0 ≤ key) (kret : Int → R) (kx : Unit → R) : ∀ (m n i : Nat), i + m = 16 → m < n →
    spec_l15At_l0 std (spec_l15Slot std) n l key i kret kx = got (atGo l key m i) kret kx
  | 0, n + 1, i, hi, hn => by
    unfold spec_l15At_l0
    have : std.lt (i : Int) (l.length : Int) = false := by rw [lt_nat]; simp; omega
    simp only [std_ilen, this, cond_false, atGo, got]
  | m + 1, n + 1, i, hi, hn => by
    unfold spec_l15At_l0 atGo
    have e1 : std.lt (i : Int) (l.length : Int) = true := by rw [lt_nat]; simp; omega
    have e2 : std.inb (i : Int) (l.length : Int) = true := by rw [inb_nat]; simp; omega
    have ih := l15At_go l hl hr key hk kret kx m n (i + 1) (by omega) (by omega)
    have hri := hr i (by omega)
    simp only [std_ilen, e1, e2, cond_true, std_iget, Int.toNat_natCast, std_add, cast1 i (by omega), ih]
    generalize l.getD i 0 = s at hri
    by_cases h1 : 1 ≤ s
    · simp only [slot_val h1 hri.2, std_eq, std_le, hk, h1, decide_true, cond_true]
      by_cases h2 : slotKey s = key
      · simp only [h2, beq_self_eq_true, decide_true, cond_true, got]
      · simp only [beq_eq_false_iff_ne.2 h2, h2, decide_false, cond_false]
    · have h0 : s = 0 := by omega
      subst h0
      have : ((-1 : Int) == key) = false := beq_eq_false_iff_ne.2 (by omega)
      simp only [slot_zero, std_eq, this, cond_false, h1, decide_false]
theorem find_go (l : List Int) (hl : l.length = 16) (hr : ∀ j, j < 16 → 0 ≤ l.getD j 0 ∧ l.getD j 0 ≤ 524288) (key : Int) (kret : Int → R) (kx : Unit → R) : ∀ (m n i : Nat), i + m = 16 → m < n →
    impl_find_l0 std (impl_keyIn std) n key l 16 i kret kx = got (atGo l key m i) kret kx
  | 0, n + 1, i, hi, hn => by
    unfold impl_find_l0
    have : std.lt (i : Int) 16 = false := by rw [show (16 : Int) = ((16 : Nat) : Int) from rfl, lt_nat]; simp; omega
    simp only [this, cond_false, atGo, got]
  | m + 1, n + 1, i, hi, hn => by
    unfold impl_find_l0 atGo
    have e1 : std.lt (i : Int) 16 = true := by rw [show (16 : Int) = ((16 : Nat) : Int) from rfl, lt_nat]; simp; omega
    have e2 : std.inb (i : Int) (l.length : Int) = true := by rw [inb_nat]; simp; omega
    have ih := find_go l hl hr key kret kx m n (i + 1) (by omega) (by omega)
    have hri := hr i (by omega)
    simp only [std_ilen, e1, e2, cond_true, std_iget, Int.toNat_natCast, std_add, cast1 i (by omega), ih]
    generalize l.getD i 0 = s at hri
    by_cases h1 : 1 ≤ s
    · simp only [keyIn_val h1 hri.2, std_eq, std_lt, show (0 : Int) < s by omega, h1, decide_true, cond_true]
      by_cases h2 : slotKey s = key
      · simp only [h2, beq_self_eq_true, decide_true, cond_true, got]
      · simp only [beq_eq_false_iff_ne.2 h2, h2, decide_false, cond_false]
    · simp only [std_lt, show ¬ (0 : Int) < s by omega, cond_false, h1, decide_false]
theorem l15At_val {l : List Int} (h : slotsOk l = true) {key : Int} (hk : 0 ≤ key) (k : Int → R) : spec_l15At std l key k = k (atOf l key) := by
  obtain ⟨hl, hr⟩ := slotsOk_spec h
  unfold spec_l15At spec_l15At_f atOf
  generalize hN : std.fuel = N
  have hN : 4294967296 = N := hN
  rw [got_app (f := k)]
  exact l15At_go l hl hr key hk _ _ 16 N 0 (by omega) (by omega)
theorem find_val {l : List Int} (h : slotsOk l = true) (key : Int) (k : Int → R) : impl_find std l key k = k (atOf l key) := by
  obtain ⟨hl, hr⟩ := slotsOk_spec h
  unfold impl_find impl_find_f atOf
  generalize hN : std.fuel = N
  have hN : 4294967296 = N := hN
  rw [got_app (f := k)]
  have e0 : std.ilen l = 16 := by rw [std_ilen, hl]; rfl
  rw [e0]
  exact find_go l hl hr key _ _ 16 N 0 (by omega) (by omega)
theorem SlotGet_val (l : List Int) (key : Int) (k : Int → Bool → R) : spec_SlotGet std l key k = k (slotGet l key).1 (slotGet l key).2 := by
  simp only [spec_SlotGet, spec_SlotGet_f, SlotsOk_val, key_val, slotGet]
  cases hs : slotsOk l
  · rfl
  · cases hk : keyOk key
    · rfl
    · have hk0 := (keyOk_nn hk).1
      simp only [std_not, Bool.not_true, cond_false, cond_true, l15At_val hs hk0, std_lt]
      rcases atOf_cases hs key with e | ⟨j, e, j1, j2, j3, j4⟩
      · rw [e]; rfl
      · have e1 : ¬ ((j : Int) < 0) := by omega
        have e2 : std.inb (j : Int) (l.length : Int) = true := by rw [inb_nat, (slotsOk_spec hs).1]; simpa using j1
        simp only [e, e1, decide_false, cond_false, std_ilen, e2, cond_true, std_iget, Int.toNat_natCast, slot_val j2 j3]
theorem SlotGet_eq (l : List Int) (key : Int) (k : Int → Bool → R) : impl_SlotGet std l key k = k (slotGet l key).1 (slotGet l key).2 := by
  simp only [impl_SlotGet, impl_SlotGet_f, SlotsOk_eq, isKey_eq, SlotsOk_val, key_val, slotGet]
  cases hs : slotsOk l
  · rfl
  · cases hk : keyOk key
    · rfl
    · simp only [std_not, Bool.not_true, cond_false, cond_true, find_val hs, std_lt]
      rcases atOf_cases hs key with e | ⟨j, e, j1, j2, j3, j4⟩
      · rw [e]; rfl
      · have e1 : ¬ ((j : Int) < 0) := by omega
        have e2 : std.inb (j : Int) (l.length : Int) = true := by rw [inb_nat, (slotsOk_spec hs).1]; simpa using j1
        have e3 : std.nz 65536 = true := by simp
        have w := (slot_range (s := l.getD j 0) (by omega) (by omega) j3).1
        simp only [e, e1, decide_false, cond_false, std_ilen, e2, cond_true, std_iget, Int.toNat_natCast, e3, std_rem, std_sub, w]
theorem l15Ints_eq (l : List Int) (h : l.length ≤ 2147483648) (k : List Int → R) : spec_l15Ints std l k = k l := by
  have : std.room (std.ilen []) (std.ilen l) = true := by simp; omega
  simp only [spec_l15Ints, spec_l15Ints_f, this, cond_true, std_iapp, List.nil_append]
theorem copyInts_eq : impl_copyInts std = spec_l15Ints std := rfl
theorem SlotDrop_val (l : List Int) (h : l.length ≤ 2147483648) (key : Int) (k : List Int → Int → Bool → R) : spec_SlotDrop std l key k = k (slotDrop l key).1 (slotDrop l key).2.1 (slotDrop l key).2.2 := by
  simp only [spec_SlotDrop, spec_SlotDrop_f, l15Ints_eq l h, SlotsOk_val, key_val, slotDrop]
  cases hs : slotsOk l
  · rfl
  · cases hk : keyOk key
    · rfl
    · have hk0 := (keyOk_nn hk).1
      simp only [std_not, Bool.not_true, cond_false, cond_true, l15At_val hs hk0, std_lt]
      rcases atOf_cases hs key with e | ⟨j, e, j1, j2, j3, j4⟩
      · rw [e]; rfl
      · have e1 : ¬ ((j : Int) < 0) := by omega
        have e2 : std.inb (j : Int) (l.length : Int) = true := by rw [inb_nat, (slotsOk_spec hs).1]; simpa using j1
        simp only [e, e1, decide_false, cond_false, std_ilen, e2, cond_true, std_iget, std_iset, Int.toNat_natCast, slot_val j2 j3, std_add, Int.add_comm 1]
theorem SlotDrop_eq (l : List Int) (h : l.length ≤ 2147483648) (key : Int) (k : List Int → Int → Bool → R) : impl_SlotDrop std l key k = k (slotDrop l key).1 (slotDrop l key).2.1 (slotDrop l key).2.2 := by
  simp only [impl_SlotDrop, impl_SlotDrop_f, copyInts_eq, l15Ints_eq l h, SlotsOk_eq, isKey_eq, SlotsOk_val, key_val, slotDrop, SlotGet_eq, slotGet]
  cases hs : slotsOk l
  · rfl
  · cases hk : keyOk key
    · rfl
    · simp only [std_not, Bool.not_true, cond_false, cond_true, find_val hs, std_lt]
      rcases atOf_cases hs key with e | ⟨j, e, j1, j2, j3, j4⟩
      · rw [e]; rfl
      · have e1 : ¬ ((j : Int) < 0) := by omega
        have e2 : std.inb (j : Int) (l.length : Int) = true := by rw [inb_nat, (slotsOk_spec hs).1]; simpa using j1
        simp only [e, e1, decide_false, cond_false, std_ilen, e2, cond_true, std_iset, Int.toNat_natCast, std_add]
theorem put_loops (c70 : spec_l15Key_T) (c20 : spec_BucketOf_T) (c72 : spec_l3Val_T) (c75 : spec_l15Slot_T) (c30 : spec_SlotsOk_T) (c79 : spec_l15At_T) (c83 : spec_l15Ints_T) (d71 : impl_isKey_T) (d21 : impl_BucketOf_T) (d73 : impl_isValue_T) (d77 : impl_slotOf_T) (d32 : impl_SlotsOk_T) (d80 : impl_find_T) (d34 : impl_SlotGet_T) (d84 : impl_copyInts_T) (l : List Int) (hl : l.length = 16) (key v : Int) (kret : Int → Bool → List Int → R) (kx : List Int → R) (kx' : Int → Int → Int → List Int → R) : ∀ (m n i : Nat), i + m = 16 → m < n → (∃ j, i ≤ j ∧ j < i + m ∧ l.getD j 0 = 0) →
    spec_SlotPut_l0 std c83 c75 c70 c20 c30 c79 c72 n l key v i l kret kx =
      kret 0 true (l.set (zeroAt l m i) (std.add .i64 (std.add .i64 1 (std.mul .i64 key 65536)) v)) ∧
    impl_SlotPut_l0 std d84 d77 d71 d21 d32 d73 d80 d34 n key v i l kx' = kx' key v (zeroAt l m i) l
  | 0, n + 1, i, hi, hn, ⟨j, h1, h2, _⟩ => by omega
  | m + 1, n + 1, i, hi, hn, ⟨j, h1, h2, h3⟩ => by
    unfold spec_SlotPut_l0 impl_SlotPut_l0 zeroAt
    have e1 : std.lt (i : Int) (l.length : Int) = true := by rw [lt_nat]; simp; omega
    have e2 : std.inb (i : Int) (l.length : Int) = true := by rw [inb_nat]; simp; omega
    simp only [std_ilen, e1, e2, cond_true, std_iget, std_iset, Int.toNat_natCast, std_eq, std_not]
    by_cases e : l.getD i 0 = 0
    · simp only [e, beq_self_eq_true, decide_true, cond_true, Bool.not_true, cond_false, and_self]
    · have hne : i ≠ j := fun e' => by subst e'; exact e h3
      obtain ⟨a, b⟩ := put_loops c70 c20 c72 c75 c30 c79 c83 d71 d21 d73 d77 d32 d80 d34 d84 l hl key v kret kx kx' m n (i + 1) (by omega) (by omega) ⟨j, by omega, by omega, h3⟩
      have ei : std.add .i64 (i : Int) 1 = ((i + 1 : Nat) : Int) := by rw [std_add]; exact cast1 i (by omega)
      simp only [beq_eq_false_iff_ne.2 e, e, decide_false, cond_false, Bool.not_false, cond_true, ei, a, b, and_self]
theorem slotOf_val {a r : Int} (ha : 0 ≤ a ∧ a ≤ 7) (hr : 0 ≤ r ∧ r ≤ 65535) (k : Int → R) : impl_slotOf std a r k = k (1 + a * 65536 + r) := by
  have := put_word ha hr
  simp only [std_mul] at this
  simp only [impl_slotOf, impl_slotOf_f, std_mul, Int.mul_comm 65536 a, this]
theorem SlotPut_val (l : List Int) (h : l.length ≤ 2147483648) (a r : Int) (k : List Int → Int → Bool → R) :
    spec_SlotPut std l a r k = k (slotPut l a r).1 (slotPut l a r).2.1 (slotPut l a r).2.2 ∧ impl_SlotPut std l a r k = k (slotPut l a r).1 (slotPut l a r).2.1 (slotPut l a r).2.2 := by
  simp only [spec_SlotPut, spec_SlotPut_f, impl_SlotPut, impl_SlotPut_f, copyInts_eq, SlotsOk_eq, isKey_eq, isValue_eq, l15Ints_eq l h, SlotsOk_val, key_val, val_val, slotPut, SlotGet_eq, slotGet, bucket_eq, bucket_val]
  cases hs : slotsOk l
  · exact ⟨rfl, rfl⟩
  · cases hk : keyOk a
    · exact ⟨rfl, rfl⟩
    · cases hv : valOk r
      · exact ⟨rfl, rfl⟩
      · have hk0 := keyOk_nn hk
        have hv0 := valOk_nn hv
        obtain ⟨hl, hr⟩ := slotsOk_spec hs
        simp only [std_not, Bool.not_true, cond_false, cond_true, l15At_val hs hk0.1, find_val hs, std_le]
        rcases atOf_cases hs a with e | ⟨j, e, j1, j2, j3, j4⟩
        · have e0 : ¬ ((0 : Int) ≤ -1) := by omega
          have e1 : decide ((-1 : Int) < 0) = true := by simp
          obtain ⟨b1, b2⟩ := bucket_range hk
          have w : std.mul .i64 4 (bucket a) = (((4 * bucket a).toNat : Nat) : Int) := by
            rw [std_mul, i64_wrap (by omega) (by omega)]; omega
          obtain ⟨q, q1, q2, q3⟩ := free_slot hs hk0.1 hk0.2 (by omega)
          simp only [e, e0, decide_false, cond_false, e1, cond_true, w]
          generalize hN : std.fuel = N
          have hN : 4294967296 = N := hN
          have hex : ∃ j, (4 * bucket a).toNat ≤ j ∧ j < (4 * bucket a).toNat + (16 - (4 * bucket a).toNat) ∧ l.getD j 0 = 0 := ⟨q, by omega, by omega, q3⟩
          obtain ⟨z1, z2, z3⟩ := zeroAt_lt l (16 - (4 * bucket a).toNat) (4 * bucket a).toNat hex
          refine ⟨?_, ?_⟩
          · refine (put_loops _ _ _ _ _ _ _ (impl_isKey std) (impl_BucketOf std) (impl_isValue std) (impl_slotOf std) (impl_SlotsOk std) (impl_find std) (impl_SlotGet std) (impl_copyInts std) l hl a r _ _ (fun _ _ _ _ => none) (16 - (4 * bucket a).toNat) N (4 * bucket a).toNat (by omega) (by omega) hex).1.trans ?_
            rw [put_word hk0 hv0]
          · refine (put_loops (spec_l15Key std) (spec_BucketOf std) (spec_l3Val std) (spec_l15Slot std) (spec_SlotsOk std) (spec_l15At std) (spec_l15Ints std) _ _ _ _ _ _ _ _ l hl a r (fun _ _ _ => none) (fun _ => none) _ (16 - (4 * bucket a).toNat) N (4 * bucket a).toNat (by omega) (by omega) hex).2.trans ?_
            have e2 : std.inb ((zeroAt l (16 - (4 * bucket a).toNat) (4 * bucket a).toNat : Nat) : Int) (l.length : Int) = true := by rw [inb_nat]; exact decide_eq_true (by omega)
            simp only [slotOf_val hk0 hv0, std_ilen, e2, cond_true, std_iset, Int.toNat_natCast]
        · have e0 : ((0 : Int) ≤ (j : Int)) := Int.natCast_nonneg j
          have e1 : decide ((j : Int) < 0) = false := decide_eq_false (by omega)
          have e2 : std.inb (j : Int) (l.length : Int) = true := by rw [inb_nat, hl]; simpa using j1
          simp only [e, e0, decide_true, cond_true, e1, cond_false, std_ilen, e2, std_iget, std_iset, Int.toNat_natCast, slot_val j2 j3, put_word hk0 hv0, slotOf_val hk0 hv0]
          simp only [std_add, Int.add_comm 1 ((l.getD j 0 - 1).tmod 65536), tmod_wrap j2 j3, and_self]
theorem l1In_val (x a b : Int) (k : Bool → R) : spec_l1In std x a b k = k (decide (a ≤ x ∧ x ≤ b)) := by
  simp only [spec_l1In, spec_l1In_f, std_le]
  by_cases h1 : a ≤ x <;> by_cases h2 : x ≤ b <;> simp [h1, h2]
theorem isMap_go (m : List Int) (kret : Bool → R) (kx : List Int → R) (hb : m.length ≤ 2147483648) : ∀ (n N i : Nat), i + n = m.length → n < N →
    impl_isMap_l0 std (spec_l1In std) N m m m.length i kret kx = bif mapIn m n i then kx m else kret false
  | 0, N + 1, i, hi, hn => by
    unfold impl_isMap_l0
    have : std.lt (i : Int) (m.length : Int) = false := by rw [lt_nat]; simp; omega
    simp only [this, cond_false, mapIn, cond_true]
  | n + 1, N + 1, i, hi, hn => by
    unfold impl_isMap_l0 mapIn
    have e1 : std.lt (i : Int) (m.length : Int) = true := by rw [lt_nat]; simp; omega
    have e2 : std.inb (i : Int) (m.length : Int) = true := by rw [inb_nat]; simp; omega
    have ih := isMap_go m kret kx hb n N (i + 1) (by omega) (by omega)
    have ei : std.add .i64 (i : Int) 1 = ((i + 1 : Nat) : Int) := by rw [std_add]; exact cast1 i (by omega)
    simp only [std_ilen, e1, e2, cond_true, std_iget, Int.toNat_natCast, ei, l1In_val]
    cases hd : decide (0 ≤ m.getD i 0 ∧ m.getD i 0 ≤ 65536)
    · simp only [std_not, Bool.not_false, cond_true, cond_false]
    · simp only [std_not, Bool.not_true, cond_false, cond_true, ih]
theorem isMap_val (m : List Int) (hb : m.length ≤ 2147483648) (k : Bool → R) : impl_isMap std m k = k (isMapB m) := by
  unfold impl_isMap impl_isMap_f isMapB
  rw [within_eq]
  generalize hN : std.fuel = N
  have hN : 4294967296 = N := hN
  refine (isMap_go m (fun t => k t) (fun l => k (std.eq (std.ilen l) 8)) hb m.length N 0 (by omega) (by omega)).trans ?_
  have : std.eq (std.ilen m) 8 = decide (m.length = 8) := by
    by_cases h : m.length = 8
    · simp [h]
    · have : ((m.length : Int) == 8) = false := beq_eq_false_iff_ne.2 (by omega)
      simp [h, this]
  rw [this]
  cases mapIn m m.length 0 <;> rfl
theorem from_go2 (m : List Int) (hm : m.length = 8) (c85 : impl_isMap_T) (kx : List Int → R) : ∀ (n N i : Nat) (o : List Int), i + n = 8 → n < N → o.length = 16 → mapIn m n i = true →
    impl_SlotsFrom_l0 std (impl_SlotPut std) c85 (impl_SlotNew std) N m 8 i o kx = kx (fromGo m n i o)
  | 0, N + 1, i, o, hi, hn, ho, _ => by
    unfold impl_SlotsFrom_l0
    have : std.lt (i : Int) 8 = false := by rw [show (8 : Int) = ((8 : Nat) : Int) from rfl, lt_nat]; simp; omega
    simp only [this, cond_false, fromGo]
  | n + 1, N + 1, i, o, hi, hn, ho, hin => by
    unfold mapIn at hin
    unfold impl_SlotsFrom_l0 fromGo
    have e1 : std.lt (i : Int) 8 = true := by rw [show (8 : Int) = ((8 : Nat) : Int) from rfl, lt_nat]; simp; omega
    have e2 : std.inb (i : Int) (m.length : Int) = true := by rw [inb_nat]; simp; omega
    by_cases hr : 0 ≤ m.getD i 0 ∧ m.getD i 0 ≤ 65536
    · simp only [hr, and_self, decide_true, cond_true] at hin
      have ih := fun o ho => from_go2 m hm c85 kx n N (i + 1) o (by omega) (by omega) ho hin
      have ei : std.add .i64 (i : Int) 1 = ((i + 1 : Nat) : Int) := by rw [std_add]; exact cast1 i (by omega)
      have w : std.sub .i64 (m.getD i 0) 1 = m.getD i 0 - 1 := by rw [std_sub]; exact i64_wrap (by omega) (by omega)
      simp only [std_ilen, e1, e2, cond_true, std_iget, Int.toNat_natCast, ei, std_lt, w, (SlotPut_val o (by omega) _ _ _).2]
      by_cases h0 : 0 < m.getD i 0
      · simp only [h0, decide_true, cond_true, ih _ ((slotPut_length _ _ _).trans ho)]
      · simp only [h0, decide_false, cond_false, ih o ho]
    · simp only [hr, decide_false, cond_false] at hin
      cases hin
theorem SlotNew_val (k : List Int → R) : spec_SlotNew std k = k (List.replicate 16 0) := by simp [spec_SlotNew, spec_SlotNew_f]
theorem SlotNew_eq : impl_SlotNew std = spec_SlotNew std := rfl
theorem SlotsFrom_eq (m : List Int) (hb : m.length ≤ 2147483648) (k : List Int → R) : impl_SlotsFrom std m k = k (slotsFrom m) := by
  unfold impl_SlotsFrom impl_SlotsFrom_f slotsFrom
  rw [isMap_val m hb]
  by_cases hm : m.length = 8
  · unfold isMapB
    simp only [hm, decide_true, cond_true]
    cases hin : mapIn m 8 0
    · rfl
    · have e0 : std.ilen m = 8 := by rw [std_ilen, hm]; rfl
      simp only [cond_true, std_not, Bool.not_true, cond_false, SlotNew_eq, SlotNew_val, e0]
      generalize hN : std.fuel = N
      have hN : 4294967296 = N := hN
      exact from_go2 m hm _ (fun o => k o) 8 N 0 (List.replicate 16 0) (by omega) (by omega) (by simp) hin
  · have : isMapB m = false := by unfold isMapB; cases mapIn m m.length 0 <;> simp [hm]
    simp only [this, std_not, Bool.not_false, cond_true, hm, decide_false, cond_false]
noncomputable def opOk (a b c d : Int) : Bool := (det_OpOk a b c d).choose
theorem OpOk_val (a b c d : Int) (k : Bool → R) : spec_OpOk std a b c d k = k (opOk a b c d) := (det_OpOk a b c d).choose_spec k
theorem reg_val (x : Int) (k : Bool → R) : spec_l4Reg std x k = k (regOk x) := l1In_val x 0 3 k
theorem opOk_of {a b c d : Int} {r : Bool} (h : ∀ k : Bool → R, spec_OpOk std a b c d k = k r) : opOk a b c d = r := by
  have := (OpOk_val a b c d (fun b => some (.bool b))).symm.trans (h _)
  simpa using this
theorem op12 (b c d : Int) : opOk 12 b c d = bif kOk b then (bif regOk c then regOk d else false) else false := by
  refine opOk_of fun k => ?_
  unfold spec_OpOk spec_OpOk_f
  simp only [std_eq, show (((12 : Int) == 1)) = false from rfl, show (((12 : Int) == 2)) = false from rfl, show (((12 : Int) == 3)) = false from rfl, show (((12 : Int) == 4)) = false from rfl, show (((12 : Int) == 5)) = false from rfl, show (((12 : Int) == 6)) = false from rfl, show (((12 : Int) == 7)) = false from rfl, show (((12 : Int) == 8)) = false from rfl, show (((12 : Int) == 15)) = false from rfl, show (((12 : Int) == 16)) = false from rfl, show (((12 : Int) == 9)) = false from rfl, show (((12 : Int) == 10)) = false from rfl, show (((12 : Int) == 11)) = false from rfl, show (((12 : Int) == 12)) = true from rfl, show (((12 : Int) == 13)) = false from rfl, show (((12 : Int) == 14)) = false from rfl, cond_true, cond_false, l1In_val, reg_val, kOk]
  cases decide (0 ≤ b ∧ b ≤ 7) <;> cases regOk c <;> cases regOk d <;> rfl
theorem op14 (b c d : Int) : opOk 14 b c d = bif kOk b then (bif regOk c then d == 0 else false) else false := by
  refine opOk_of fun k => ?_
  unfold spec_OpOk spec_OpOk_f
  simp only [std_eq, show (((14 : Int) == 1)) = false from rfl, show (((14 : Int) == 2)) = false from rfl, show (((14 : Int) == 3)) = false from rfl, show (((14 : Int) == 4)) = false from rfl, show (((14 : Int) == 5)) = false from rfl, show (((14 : Int) == 6)) = false from rfl, show (((14 : Int) == 7)) = false from rfl, show (((14 : Int) == 8)) = false from rfl, show (((14 : Int) == 15)) = false from rfl, show (((14 : Int) == 16)) = false from rfl, show (((14 : Int) == 9)) = false from rfl, show (((14 : Int) == 10)) = false from rfl, show (((14 : Int) == 11)) = false from rfl, show (((14 : Int) == 12)) = false from rfl, show (((14 : Int) == 13)) = false from rfl, show (((14 : Int) == 14)) = true from rfl, cond_true, cond_false, l1In_val, reg_val, kOk]
  cases decide (0 ≤ b ∧ b ≤ 7) <;> cases regOk c <;> rfl
theorem op13 (b c d : Int) : opOk 13 b c d = bif regOk b then (bif kOk c then d == 0 else false) else false := by
  refine opOk_of fun k => ?_
  unfold spec_OpOk spec_OpOk_f
  simp only [std_eq, show (((13 : Int) == 1)) = false from rfl, show (((13 : Int) == 2)) = false from rfl, show (((13 : Int) == 3)) = false from rfl, show (((13 : Int) == 4)) = false from rfl, show (((13 : Int) == 5)) = false from rfl, show (((13 : Int) == 6)) = false from rfl, show (((13 : Int) == 7)) = false from rfl, show (((13 : Int) == 8)) = false from rfl, show (((13 : Int) == 15)) = false from rfl, show (((13 : Int) == 16)) = false from rfl, show (((13 : Int) == 9)) = false from rfl, show (((13 : Int) == 10)) = false from rfl, show (((13 : Int) == 11)) = false from rfl, show (((13 : Int) == 12)) = false from rfl, show (((13 : Int) == 13)) = true from rfl, show (((13 : Int) == 14)) = false from rfl, cond_true, cond_false, l1In_val, reg_val, kOk]
  cases regOk b <;> cases decide (0 ≤ c ∧ c ≤ 7) <;> rfl
theorem op15 (b c d : Int) : opOk 15 b c d = bif regOk b then (bif c == 0 then d == 0 else false) else false := by
  refine opOk_of fun k => ?_
  unfold spec_OpOk spec_OpOk_f
  simp only [std_eq, show (((15 : Int) == 1)) = false from rfl, show (((15 : Int) == 2)) = false from rfl, show (((15 : Int) == 3)) = false from rfl, show (((15 : Int) == 4)) = false from rfl, show (((15 : Int) == 5)) = false from rfl, show (((15 : Int) == 6)) = false from rfl, show (((15 : Int) == 7)) = false from rfl, show (((15 : Int) == 8)) = false from rfl, show (((15 : Int) == 15)) = true from rfl, show (((15 : Int) == 16)) = false from rfl, show (((15 : Int) == 9)) = false from rfl, show (((15 : Int) == 10)) = false from rfl, show (((15 : Int) == 11)) = false from rfl, show (((15 : Int) == 12)) = false from rfl, show (((15 : Int) == 13)) = false from rfl, show (((15 : Int) == 14)) = false from rfl, cond_true, cond_false, l1In_val, reg_val, kOk]
  cases regOk b <;> cases (c == 0) <;> rfl
theorem op16 (b c d : Int) : opOk 16 b c d = bif regOk b then (bif c == 0 then d == 0 else false) else false := by
  refine opOk_of fun k => ?_
  unfold spec_OpOk spec_OpOk_f
  simp only [std_eq, show (((16 : Int) == 1)) = false from rfl, show (((16 : Int) == 2)) = false from rfl, show (((16 : Int) == 3)) = false from rfl, show (((16 : Int) == 4)) = false from rfl, show (((16 : Int) == 5)) = false from rfl, show (((16 : Int) == 6)) = false from rfl, show (((16 : Int) == 7)) = false from rfl, show (((16 : Int) == 8)) = false from rfl, show (((16 : Int) == 15)) = false from rfl, show (((16 : Int) == 16)) = true from rfl, show (((16 : Int) == 9)) = false from rfl, show (((16 : Int) == 10)) = false from rfl, show (((16 : Int) == 11)) = false from rfl, show (((16 : Int) == 12)) = false from rfl, show (((16 : Int) == 13)) = false from rfl, show (((16 : Int) == 14)) = false from rfl, cond_true, cond_false, l1In_val, reg_val, kOk]
  cases regOk b <;> cases (c == 0) <;> rfl
theorem Back_val (key old : Int) (k : Int → Int → Int → R) : spec_l16Back std key old k = k (backV key old).1 (backV key old).2.1 (backV key old).2.2 := by
  simp only [spec_l16Back, spec_l16Back_f, std_eq, std_sub, backV]
  cases (old == 0) <;> rfl
theorem backTo_eq : impl_backTo std = spec_l16Back std := rfl
theorem Touches_eq : impl_Touches std = spec_Touches std := rfl
theorem l4Regs_go (r : List Int) (hb : r.length ≤ 2147483648) (kret : Bool → R) (kx : Unit → R) : ∀ (n N i : Nat), i + n = r.length → n < N → spec_l4Regs_l0 std (spec_l3Val std) N r i kret kx = bif allVal r n i then kx () else kret false
  | 0, N + 1, i, hi, hn => by
    unfold spec_l4Regs_l0
    have e1 : std.lt (i : Int) (r.length : Int) = false := by rw [lt_nat]; exact decide_eq_false (by omega)
    simp only [std_ilen, e1, cond_false, allVal, cond_true]
  | n + 1, N + 1, i, hi, hn => by
    unfold spec_l4Regs_l0 allVal
    have e1 : std.lt (i : Int) (r.length : Int) = true := by rw [lt_nat]; exact decide_eq_true (by omega)
    have e2 : std.inb (i : Int) (r.length : Int) = true := by rw [inb_nat]; exact decide_eq_true (by omega)
    have ih := l4Regs_go r hb kret kx n N (i + 1) (by omega) (by omega)
    simp only [std_ilen, e1, e2, cond_true, std_iget, Int.toNat_natCast, std_add, cast1 i (by omega), val_val]
    cases valOk (r.getD i 0)
    · simp only [std_not, Bool.not_false, cond_true, cond_false]
    · simp only [std_not, Bool.not_true, cond_true, cond_false, ih]
theorem areValues_go (r : List Int) (m : Int) (hb : r.length ≤ 2147483648) (kret : Bool → R) (kx : List Int → Int → R) : ∀ (n N i : Nat), i + n = r.length → n < N → impl_areValues_l0 std (spec_l3Val std) N r m r r.length i kret kx = bif allVal r n i then kx r m else kret false
  | 0, N + 1, i, hi, hn => by
    unfold impl_areValues_l0
    have e1 : std.lt (i : Int) (r.length : Int) = false := by rw [lt_nat]; exact decide_eq_false (by omega)
    simp only [e1, cond_false, allVal, cond_true]
  | n + 1, N + 1, i, hi, hn => by
    unfold impl_areValues_l0 allVal
    have e1 : std.lt (i : Int) (r.length : Int) = true := by rw [lt_nat]; exact decide_eq_true (by omega)
    have e2 : std.inb (i : Int) (r.length : Int) = true := by rw [inb_nat]; exact decide_eq_true (by omega)
    have ih := areValues_go r m hb kret kx n N (i + 1) (by omega) (by omega)
    simp only [std_ilen, e1, e2, cond_true, std_iget, Int.toNat_natCast, std_add, cast1 i (by omega), val_val]
    cases valOk (r.getD i 0)
    · simp only [std_not, Bool.not_false, cond_true, cond_false]
    · simp only [std_not, Bool.not_true, cond_true, cond_false, ih]
theorem Regs_val (r : List Int) (hb : r.length ≤ 2147483648) (k : Bool → R) : spec_l4Regs std r k = k (regsOk r) := by
  unfold spec_l4Regs spec_l4Regs_f regsOk
  by_cases h : r.length = 4
  · have e1 : std.not (std.eq (std.ilen r) 4) = false := by simp [h]
    simp only [e1, cond_false, h, decide_true, cond_true]
    generalize hN : std.fuel = N
    have hN : 4294967296 = N := hN
    refine (l4Regs_go r hb (fun t => k t) (fun _ => k true) 4 N 0 (by omega) (by omega)).trans ?_
    cases allVal r 4 0 <;> rfl
  · have : ((r.length : Int) == 4) = false := beq_eq_false_iff_ne.2 (by omega)
    have e1 : std.not (std.eq (std.ilen r) 4) = true := by simp [this]
    simp only [e1, cond_true, h, decide_false, cond_false]
theorem areValues_eq (r : List Int) (hb : r.length ≤ 2147483648) (k : Bool → R) : impl_areValues std r 4 k = k (regsOk r) := by
  unfold impl_areValues impl_areValues_f regsOk
  rw [isValue_eq]
  generalize hN : std.fuel = N
  have hN : 4294967296 = N := hN
  refine (areValues_go r 4 hb (fun t => k t) (fun l n => k (std.eq (std.ilen l) n)) r.length N 0 (by omega) (by omega)).trans ?_
  by_cases h : r.length = 4
  · have e1 : std.eq (std.ilen r) 4 = true := by simp [h]
    simp only [e1, h, decide_true, cond_true]
    cases allVal r 4 0 <;> rfl
  · have : ((r.length : Int) == 4) = false := beq_eq_false_iff_ne.2 (by omega)
    have e1 : std.eq (std.ilen r) 4 = false := by simp [this]
    simp only [e1, h, decide_false, cond_false]
    cases allVal r r.length 0 <;> rfl
theorem BoostDo_ex (l : List Int) (c kd a b d : Int) (r : List Int) (h : l.length ≤ 2147483648) (hr : r.length ≤ 2147483648) :
    ∃ t : List Int × Int × List Int × Int × Int × Int × Bool, t.1.length = l.length ∧ t.2.2.1.length = r.length ∧
      (∀ k, spec_BoostDo std l c kd a b d r k = k t.1 t.2.1 t.2.2.1 t.2.2.2.1 t.2.2.2.2.1 t.2.2.2.2.2.1 t.2.2.2.2.2.2) ∧
      (∀ k, impl_BoostDo std l c kd a b d r k = k t.1 t.2.1 t.2.2.1 t.2.2.2.1 t.2.2.2.2.1 t.2.2.2.2.2.1 t.2.2.2.2.2.2) := by
  have nz : std.nz 65536 = true := by simp
  simp only [spec_BoostDo, spec_BoostDo_f, impl_BoostDo, impl_BoostDo_f, spec_l16Copy, spec_l16Copy_f, impl_copyShelf, impl_copyShelf_f, copyInts_eq, l15Ints_eq l h, l15Ints_eq r hr, ShelfOk_eq, ShelfOk_val, Regs_val r hr, areValues_eq r hr,
    Touches_eq, spec_Touches, spec_Touches_f, OpOk_val, SlotGet_val, SlotGet_eq, (SlotPut_val l h _ _ _).1, (SlotPut_val l h _ _ _).2, SlotDrop_val l h, SlotDrop_eq l h, backTo_eq, Back_val, nz, cond_true]
  cases hsh : shelfOk l c
  · exact ⟨(l, c, r, 0, 0, 0, false), rfl, rfl, fun k => rfl, fun k => rfl⟩
  cases hrg : regsOk r
  · exact ⟨(l, c, r, 0, 0, 0, false), rfl, rfl, fun k => rfl, fun k => rfl⟩
  cases hop : opOk kd a b d
  · exact ⟨(l, c, r, 0, 0, 0, false), rfl, rfl, fun k => by simp, fun k => by simp⟩
  have h4 := regsOk_len hrg
  have e4 : std.ilen r = 4 := by rw [std_ilen, h4]; rfl
  have e4' : ∀ i x, std.ilen (std.iset r i x) = 4 := fun i x => by rw [std_ilen, std_iset, List.length_set, h4]; rfl
  simp only [std_not, Bool.not_true, cond_false, std_eq, e4, e4']
  by_cases k12 : kd = 12
  · subst k12
    rw [op12] at hop
    have g1 : regOk b = true := by revert hop; cases kOk a <;> cases regOk b <;> simp
    have g2 : regOk d = true := by revert hop; cases kOk a <;> cases regOk b <;> simp
    refine ⟨((slotPut l a (r.getD b.toNat 0)).1, c, r.set d.toNat ((slotPut l a (r.getD b.toNat 0)).2.1.tmod 65536), (backV a (slotPut l a (r.getD b.toNat 0)).2.1).1, (backV a (slotPut l a (r.getD b.toNat 0)).2.1).2.1, (backV a (slotPut l a (r.getD b.toNat 0)).2.1).2.2, true), slotPut_length _ _ _, by simp, fun k => ?_, fun k => ?_⟩
    · simp [inb4 g1, inb4 g2, -std_inb]
    · simp [inb4 g1, inb4 g2, -std_inb]
  by_cases k13 : kd = 13
  · subst k13
    rw [op13] at hop
    have g1 : regOk a = true := by revert hop; cases regOk a <;> simp
    cases hg : (slotGet l b).2
    · refine ⟨(l, c, r.set a.toNat 0, 0, 0, 0, true), rfl, by simp, fun k => ?_, fun k => ?_⟩
      · simp [inb4 g1, -std_inb]
      · simp [inb4 g1, -std_inb]
    · refine ⟨(l, c, (r.set a.toNat 0).set a.toNat ((IntKind.i64.wrap ((slotGet l b).1 + 1)).tmod 65536), 0, 0, 0, true), rfl, by simp, fun k => ?_, fun k => ?_⟩
      · simp [inb4 g1, -std_inb]
      · simp [inb4 g1, -std_inb]
  by_cases k14 : kd = 14
  · subst k14
    rw [op14] at hop
    have g1 : regOk b = true := by revert hop; cases kOk a <;> cases regOk b <;> simp
    refine ⟨((slotDrop l a).1, c, r.set b.toNat ((slotDrop l a).2.1.tmod 65536), (backV a (slotDrop l a).2.1).1, (backV a (slotDrop l a).2.1).2.1, (backV a (slotDrop l a).2.1).2.2, true), slotDrop_length _ _, by simp, fun k => ?_, fun k => ?_⟩
    · simp [inb4 g1, -std_inb]
    · simp [inb4 g1, -std_inb]
  by_cases k15 : kd = 15
  · subst k15
    rw [op15] at hop
    have g1 : regOk a = true := by revert hop; cases regOk a <;> simp
    refine ⟨(l, (IntKind.i64.wrap (c + r.getD a.toNat 0)).tmod 65536, r, 3, 0, r.getD a.toNat 0, true), rfl, rfl, fun k => ?_, fun k => ?_⟩
    · simp [inb4 g1, -std_inb]
    · simp [inb4 g1, -std_inb]
  by_cases k16 : kd = 16
  · subst k16
    rw [op16] at hop
    have g1 : regOk a = true := by revert hop; cases regOk a <;> simp
    refine ⟨(l, c, r.set a.toNat c, 0, 0, 0, true), rfl, by simp, fun k => ?_, fun k => ?_⟩
    · simp [inb4 g1, -std_inb]
    · simp [inb4 g1, -std_inb]
  have e : ∀ n : Int, kd ≠ n → (kd == n) = false := fun n h => beq_eq_false_iff_ne.2 h
  refine ⟨(l, c, r, 0, 0, 0, false), rfl, rfl, fun k => ?_, fun k => ?_⟩
  · simp only [e 12 k12, e 13 k13, e 14 k14, e 15 k15, e 16 k16, cond_false]
    cases (kd == 5) <;> cases (kd == 6) <;> rfl
  · simp only [e 12 k12, e 13 k13, e 14 k14, e 15 k15, e 16 k16, cond_false]
    cases (kd == 5) <;> cases (kd == 6) <;> rfl
end X
