/- Models of the functions, or plain laws about them; each theorem states its own conditions. -/
import Derived.Test.YtenbofmnmliopaaPl3
set_option linter.unusedVariables false
set_option linter.unusedSimpArgs false
open Go.Proofs
namespace X
open PM Go

theorem SlotBucket (key : Int) (k : Int → R) : impl_BucketOf std key k = spec_BucketOf std key k := by
  simp only [impl_BucketOf, impl_BucketOf_f, spec_BucketOf, spec_BucketOf_f, isKey_eq, std_mul, Int.mul_comm]
theorem bucket_eq : impl_BucketOf std = spec_BucketOf std := by
  funext key k; exact SlotBucket key k
theorem det_bucket (key : Int) : Det (spec_BucketOf std key) := by
  obtain ⟨r, hr⟩ := det_key key
  cases r
  · exact ⟨_, fun k => by simp only [spec_BucketOf, spec_BucketOf_f, hr]; simp only [std_not, Bool.not_false, cond_true]; rfl⟩
  · exact ⟨_, fun k => by simp only [spec_BucketOf, spec_BucketOf_f, hr]; simp only [std_not, Bool.not_true, cond_false, std_nz]; rfl⟩

/-- A slot's key and value. -/
theorem slot_range {s : Int} (h0 : s ≠ 0) (h1 : 0 ≤ s) (h2 : s ≤ 524288) : IntKind.i64.wrap (s - 1) = s - 1 ∧ IntKind.i64.wrap ((s - 1).tdiv 65536) = (s - 1).tdiv 65536 ∧ 0 ≤ (s - 1).tdiv 65536 ∧ (s - 1).tdiv 65536 < 8 := by
  have e : (s - 1).tdiv 65536 = (s - 1) / 65536 := Int.tdiv_eq_ediv_of_nonneg (by omega)
  refine ⟨i64_wrap (by omega) (by omega), ?_, ?_, ?_⟩
  · rw [e]; exact i64_wrap (by omega) (by omega)
  · rw [e]; omega
  · rw [e]; omega

theorem SlotsOk_l (l : List Int) (hl : l.length = 16) (kret : Bool → R) (kx : Unit → R) : ∀ (n i : Nat) (o : List Bool), i ≤ 16 → o.length = 8 →
    impl_SlotsOk_l0 std (impl_within std) (impl_BucketOf std) (impl_slotOf std) (impl_keyIn std) n l 16 i o kret kx = spec_SlotsOk_l0 std (spec_l1In std) (spec_BucketOf std) (spec_l15Slot std) n l i o kret kx
  | 0, i, o, hi, ho => rfl
  | n + 1, i, o, hi, ho => by
    unfold impl_SlotsOk_l0 spec_SlotsOk_l0
    rw [within_eq, bucket_eq]
    have ih : ∀ (o : List Bool), i < 16 → o.length = 8 → impl_SlotsOk_l0 std (spec_l1In std) (spec_BucketOf std) (impl_slotOf std) (impl_keyIn std) n l 16 ((i + 1 : Nat) : Int) o kret kx = spec_SlotsOk_l0 std (spec_l1In std) (spec_BucketOf std) (spec_l15Slot std) n l ((i + 1 : Nat) : Int) o kret kx := by
      intro o h1 h2
      have := SlotsOk_l l hl kret kx n (i + 1) o (by omega) h2
      rw [within_eq, bucket_eq] at this
      exact this
    simp only [std_ilen, hl]
    have e16 : std.lt (i : Int) 16 = decide (i < 16) := lt_nat i 16
    have e16' : std.lt (i : Int) ((16 : Nat) : Int) = decide (i < 16) := lt_nat i 16
    have f16 : std.inb (i : Int) ((16 : Nat) : Int) = decide (i < 16) := inb_nat i 16
    simp only [e16, e16', f16, std_iget, Int.toNat_natCast, std_add, cast1 i (by omega)]
    by_cases h16 : i < 16
    · simp only [h16, decide_true, cond_true]
      generalize l.getD i 0 = s
      by_cases h0 : s = 0
      · subst h0
        have in0 : ∀ k : Bool → R, spec_l1In std 0 0 524288 k = k true := fun k => by simp [spec_l1In, spec_l1In_f]
        have sl : ∀ k : Int → Int → R, spec_l15Slot std 0 k = k (-1) 0 := fun k => by simp [spec_l15Slot, spec_l15Slot_f]
        have e0 : std.eq 0 0 = true := by simp
        have e1 : std.lt (-1) 0 = true := by simp
        simp only [in0, sl, e0, e1, cond_true, std_not, Bool.not_true, cond_false, ih o h16 ho]
      · have hs0 : std.eq s 0 = false := by simp [h0]
        have hs0' : (s == 0) = false := by simpa using h0
        simp only [hs0, cond_false]
        by_cases hr : 1 ≤ s ∧ s ≤ 524288
        · obtain ⟨w1, w2, w3, w4⟩ := slot_range h0 (by omega) hr.2
          have hb : (decide (0 ≤ (s - 1).tdiv 65536 ∧ (s - 1).tdiv 65536 < (8 : Int))) = true := by simp [w3, w4]
          obtain ⟨b, hb2⟩ := det_bucket ((s - 1).tdiv 65536)
          have key : ∀ k : Int → R, impl_keyIn std s k = k ((s - 1).tdiv 65536) := fun k => by simp [impl_keyIn, impl_keyIn_f, w1, w2]
          have slot : ∀ k : Int → R, impl_slotOf std 7 65535 k = k 524288 := fun k => by
            simp only [impl_slotOf, impl_slotOf_f, std_add, std_mul]
            rfl
          have in1 : ∀ k : Bool → R, spec_l1In std s 1 524288 k = k true := fun k => by simp [spec_l1In, spec_l1In_f, hr]
          have in0 : ∀ k : Bool → R, spec_l1In std s 0 524288 k = k true := fun k => by simp [spec_l1In, spec_l1In_f, hr, show 0 ≤ s by omega]
          have sl : ∀ k : Int → Int → R, spec_l15Slot std s k = k ((s - 1).tdiv 65536) ((s - 1).tmod 65536) := fun k => by simp [spec_l15Slot, spec_l15Slot_f, hs0', w1, w2]
          have ht : (((s - 1).tdiv 65536).toNat : Int) = (s - 1).tdiv 65536 := by omega
          simp only [key, slot, in1, in0, sl, hb2, std_not, Bool.not_true, cond_false, std_lt, std_blen, ho]
          have hlt : ¬ ((s - 1).tdiv 65536 < 0) := by omega
          have hnz : std.nz 4 = true := by simp
          have hinb : std.inb ((s - 1).tdiv 65536) ((8 : Nat) : Int) = true := by simp [w3, w4]
          simp only [hlt, decide_false, cond_false, hnz, cond_true, hinb]
          cases hq : std.bget o ((s - 1).tdiv 65536) <;> cases hbk : std.eq b (std.quo .i64 i 4) <;> simp only [Bool.not_true, Bool.not_false, cond_true, cond_false, List.length_set, std_bset, ih (o.set _ true) h16 (by simpa using ho)]
        · have in1 : ∀ k : Bool → R, spec_l1In std s 1 524288 k = k false := fun k => by
            by_cases h1 : 1 ≤ s
            · have : ¬ s ≤ 524288 := fun h => hr ⟨h1, h⟩
              simp [spec_l1In, spec_l1In_f, h1, this]
            · simp [spec_l1In, spec_l1In_f, h1]
          have in0 : ∀ k : Bool → R, spec_l1In std s 0 524288 k = k false := fun k => by
            by_cases h1 : 0 ≤ s
            · have : ¬ s ≤ 524288 := fun h => hr ⟨by omega, h⟩
              simp [spec_l1In, spec_l1In_f, h1, this]
            · simp [spec_l1In, spec_l1In_f, h1]
          have slot : ∀ k : Int → R, impl_slotOf std 7 65535 k = k 524288 := fun k => by
            simp only [impl_slotOf, impl_slotOf_f, std_add, std_mul]
            rfl
          simp [in1, in0, slot]
    · simp [h16]

theorem SlotsOk_eq (l : List Int) (k : Bool → R) : impl_SlotsOk std l k = spec_SlotsOk std l k := by
  unfold impl_SlotsOk impl_SlotsOk_f spec_SlotsOk spec_SlotsOk_f
  by_cases hl : l.length = 16
  · have e0 : std.ilen l = 16 := by rw [std_ilen, hl]; rfl
    have e1 : std.not (std.eq 16 16) = false := by simp
    have e2 : std.mkOk 8 = true := by simp
    have e3 : std.le 8 8 = true := by simp
    have e4 : std.bzero 8 = List.replicate 8 false := by simp
    simp only [e0, e1, e2, e3, e4, cond_true, cond_false]
    generalize std.fuel = N
    exact SlotsOk_l l hl (fun t => k t) (fun _ => k true) N 0 (List.replicate 8 false) (by omega) (by simp)
  · have : ((l.length : Int) == 16) = false := by simpa using fun e => hl (by omega)
    simp [this]

/-- The bucket of a key. -/
def bucket (key : Int) : Int := if 0 ≤ key ∧ key < 8 then (key * 7 + 3).tmod 4 else -1
theorem bucket_val (key : Int) (k : Int → R) : spec_BucketOf std key k = k (bucket key) := by
  unfold bucket
  by_cases h : 0 ≤ key ∧ key < 8
  · have e : ∀ k : Bool → R, spec_l15Key std key k = k true := fun k => by simp [spec_l15Key, spec_l15Key_f, spec_l1In, spec_l1In_f, h, show key ≤ 7 by omega]
    have w1 : IntKind.i64.wrap (key * 7) = key * 7 := i64_wrap (by omega) (by omega)
    have w2 : IntKind.i64.wrap (key * 7 + 3) = key * 7 + 3 := i64_wrap (by omega) (by omega)
    simp only [spec_BucketOf, spec_BucketOf_f, e, h, std_not, Bool.not_true, cond_false, std_nz, std_rem, std_add, std_mul, w1, w2]
    rfl
  · have e : ∀ k : Bool → R, spec_l15Key std key k = k false := fun k => by
      by_cases h1 : 0 ≤ key
      · simp [spec_l15Key, spec_l15Key_f, spec_l1In, spec_l1In_f, h1, show ¬ key ≤ 7 by omega]
      · simp [spec_l15Key, spec_l15Key_f, spec_l1In, spec_l1In_f, h1]
    simp only [spec_BucketOf, spec_BucketOf_f, e, h, std_not, Bool.not_false, cond_true, if_false]
def slotKey (s : Int) : Int := (s - 1).tdiv 65536
def slotsGo (l : List Int) : Nat → Nat → List Bool → Bool
  | 0, _, _ => true
  | m + 1, i, o =>
    bif decide (l.getD i 0 = 0) then slotsGo l m (i + 1) o
    else bif decide (1 ≤ l.getD i 0 ∧ l.getD i 0 ≤ 524288) then
      bif o.getD (slotKey (l.getD i 0)).toNat false then false
      else bif decide (bucket (slotKey (l.getD i 0)) = (i : Int).tdiv 4) then slotsGo l m (i + 1) (o.set (slotKey (l.getD i 0)).toNat true)
      else false
    else false
def slotsOk (l : List Int) : Bool := decide (l.length = 16) && slotsGo l 16 0 (List.replicate 8 false)

theorem SlotsOk_go (l : List Int) (hl : l.length = 16) (kret : Bool → R) (kx : Unit → R) : ∀ (m n i : Nat) (o : List Bool), i + m = 16 → m < n → o.length = 8 →
    spec_SlotsOk_l0 std (spec_l1In std) (spec_BucketOf std) (spec_l15Slot std) n l i o kret kx = bif slotsGo l m i o then kx () else kret false
  | 0, n + 1, i, o, hi, hn, ho => by
    unfold spec_SlotsOk_l0
    have : std.lt (i : Int) (l.length : Int) = false := by rw [lt_nat]; simp; omega
    simp only [std_ilen, this, cond_false, slotsGo, cond_true]
  | m + 1, n + 1, i, o, hi, hn, ho => by
    unfold spec_SlotsOk_l0
    have e1 : std.lt (i : Int) (l.length : Int) = true := by rw [lt_nat]; simp; omega
    have e2 : std.inb (i : Int) (l.length : Int) = true := by rw [inb_nat]; simp; omega
    have ih := fun o ho => SlotsOk_go l hl kret kx m n (i + 1) o (by omega) (by omega) ho
    simp only [std_ilen, e1, e2, cond_true, std_iget, Int.toNat_natCast, std_add, cast1 i (by omega), slotsGo]
    generalize l.getD i 0 = s
    by_cases h0 : s = 0
    · subst h0
      have in0 : ∀ k : Bool → R, spec_l1In std 0 0 524288 k = k true := fun k => by simp [spec_l1In, spec_l1In_f]
      have sl : ∀ k : Int → Int → R, spec_l15Slot std 0 k = k (-1) 0 := fun k => by simp [spec_l15Slot, spec_l15Slot_f]
      have e1 : std.lt (-1) 0 = true := by simp
      simp only [in0, sl, e1, cond_true, std_not, Bool.not_true, cond_false, ih o ho, decide_true]
    · have hs0' : (s == 0) = false := by simpa using h0
      simp only [h0, decide_false, cond_false]
      by_cases hr : 1 ≤ s ∧ s ≤ 524288
      · obtain ⟨w1, w2, w3, w4⟩ := slot_range h0 (by omega) hr.2
        have in0 : ∀ k : Bool → R, spec_l1In std s 0 524288 k = k true := fun k => by simp [spec_l1In, spec_l1In_f, hr, show 0 ≤ s by omega]
        have sl : ∀ k : Int → Int → R, spec_l15Slot std s k = k ((s - 1).tdiv 65536) ((s - 1).tmod 65536) := fun k => by simp [spec_l15Slot, spec_l15Slot_f, hs0', w1, w2]
        simp only [in0, sl, bucket_val, std_not, Bool.not_true, cond_false, std_lt, std_blen, ho, hr, and_self, decide_true, cond_true, slotKey]
        have hlt : ¬ ((s - 1).tdiv 65536 < 0) := by omega
        have hnz : std.nz 4 = true := by simp
        have hinb : std.inb ((s - 1).tdiv 65536) ((8 : Nat) : Int) = true := by simp [w3, w4]
        have hq4 : IntKind.i64.wrap ((i : Int).tdiv 4) = (i : Int).tdiv 4 := by
          have : (i : Int).tdiv 4 = (i : Int) / 4 := Int.tdiv_eq_ediv_of_nonneg (by omega)
          rw [this]; exact i64_wrap (by omega) (by omega)
        simp only [hlt, decide_false, cond_false, hnz, cond_true, hinb, std_bget, std_eq, std_quo, hq4]
        cases hq : o.getD ((s - 1).tdiv 65536).toNat false
        case true => simp only [cond_true, cond_false]
        case false =>
          simp only [cond_false]
          by_cases hbk : bucket ((s - 1).tdiv 65536) = (i : Int).tdiv 4
          · have : (bucket ((s - 1).tdiv 65536) == (i : Int).tdiv 4) = true := by simpa using hbk
            simp only [hbk, beq_self_eq_true, Bool.not_true, cond_false, decide_true, cond_true, std_bset, ih (o.set _ true) (by simpa using ho)]
          · have : (bucket ((s - 1).tdiv 65536) == (i : Int).tdiv 4) = false := by simpa using hbk
            simp only [this, Bool.not_false, cond_true, hbk, decide_false, cond_false]
      · have in0 : ∀ k : Bool → R, spec_l1In std s 0 524288 k = k false := fun k => by
          by_cases h1 : 0 ≤ s
          · have : ¬ s ≤ 524288 := fun h => hr ⟨by omega, h⟩
            simp [spec_l1In, spec_l1In_f, h1, this]
          · simp [spec_l1In, spec_l1In_f, h1]
        simp only [in0, std_not, Bool.not_false, cond_true, hr, decide_false, cond_false]

theorem SlotsOk_val (l : List Int) (k : Bool → R) : spec_SlotsOk std l k = k (slotsOk l) := by
  unfold spec_SlotsOk spec_SlotsOk_f slotsOk
  by_cases hl : l.length = 16
  · have e0 : std.ilen l = 16 := by rw [std_ilen, hl]; rfl
    have e1 : std.not (std.eq 16 16) = false := by simp
    have e2 : std.mkOk 8 = true := by simp
    have e3 : std.le 8 8 = true := by simp
    have e4 : std.bzero 8 = List.replicate 8 false := by simp
    simp only [e0, e1, e2, e3, e4, cond_true, cond_false, hl, decide_true, Bool.true_and]
    generalize hN : std.fuel = N
    have hN : 4294967296 = N := hN
    refine (SlotsOk_go l hl (fun t => k t) (fun _ => k true) 16 N 0 (List.replicate 8 false) (by omega) (by omega) (by simp)).trans ?_
    cases slotsGo l 16 0 (List.replicate 8 false) <;> rfl
  · have : ((l.length : Int) == 16) = false := by simpa using fun e => hl (by omega)
    simp [this, hl]

theorem SlotsOk_true (l : List Int) (b : FitArr cx (.ints 3 .i64 l)) (k : Bool → R) : laws_FnExactSlotsOk std l k = k true := by
  unfold laws_FnExactSlotsOk laws_FnExactSlotsOk_f
  by_cases hl : 1048576 < l.length
  · have : std.lt 1048576 (std.ilen l) = true := by simp; omega
    simp only [this, cond_true]
  · have : std.lt 1048576 (std.ilen l) = false := by simp; omega
    simp only [this, cond_false, toIntS_eq l (by omega), SlotsOk_eq, SlotsOk_val, eqIntS_eq l l (by omega), std_beq, std_not, beq_self_eq_true, Bool.not_true, decide_true]
end X
