/- Models of the functions, or plain laws about them; each theorem states its own conditions. -/
import Derived.Test.YtnjfchckceaiiaaDS1
import Derived.Test.YtnjfchckceaiiaaQM5
import Derived.Test.YtnjfchckceaiiaaQN1
set_option linter.unusedVariables false
set_option linter.unusedSimpArgs false
open Go.Proofs
namespace X
open PM Go

theorem sameInts_refl (a : List Int) (hb : a.length ≤ 2147483648) (k : Bool → R) : laws_sameInts std a a k = k true := by
  unfold laws_sameInts laws_sameInts_f
  generalize hN : std.fuel = N
  have hN : 4294967296 = N := hN
  have e : std.not (std.eq (std.ilen a) (std.ilen a)) = false := by simp
  have lp : laws_sameInts_l0 std N a a 0 (fun t => k t) (fun _ => k true) = k true := by
    refine loop_true (F := fun n i => laws_sameInts_l0 std n a a i (fun t => k t) (fun _ => k true)) (len := a.length) (by omega) (fun n i hi => ?_) (fun n => ?_)
    · have e2 : ∀ x : Int, std.not (std.eq x x) = false := fun x => by simp
      simp only [laws_sameInts_l0, std_ilen, lt_nat_t hi, inb_nat_t hi, bt, bf, e2, add1 (i := i) (by omega)]
    · simp only [laws_sameInts_l0, std_ilen, lt_nat_f (Nat.le_refl _), bf]
  rw [e, bf, lp]
theorem FnSlots_loop (c6 : laws_big_T) (c9 : spec_SlotsOk_T) (c7 : spec_DrawSlotPut_T) (c15 : impl_BucketOf_T) (c12 : impl_SlotGet_T) (c8 : impl_SlotPut_T) (c10 : laws_sameInts_T) (c11 : impl_MapOf_T) (c13 : impl_SlotDrop_T) (c14 : impl_SlotsFrom_T)
    (key v : Int) (x m n y o : List Int) (hm : m.length = 8) (hn : n.length = 8) (ho : o.length = 8) (h : ∀ i : Nat, i < 8 → (i : Int) ≠ key → n.getD i 0 = m.getD i 0 ∧ o.getD i 0 = m.getD i 0) (kret : Bool → R) (kx : Int → Int → List Int → List Int → List Int → List Int → R) (N : Nat) (hN : 8 < N) :
    laws_FnSlots_l0 std c6 c9 c7 c15 c12 c8 c10 c11 c13 c14 N key v x m n y o 0 kret kx = kx key v x n y o := by
  refine loop_true (F := fun q i => laws_FnSlots_l0 std c6 c9 c7 c15 c12 c8 c10 c11 c13 c14 q key v x m n y o i kret kx) (len := 8) hN (fun q i hi => ?_) (fun q => ?_)
  · have l8 : std.lt (i : Int) 8 = true := by rw [std_lt]; exact decide_eq_true (by omega)
    by_cases e : (i : Int) = key
    · have e1 : std.not (std.eq (i : Int) key) = false := by rw [e]; simp
      simp only [laws_FnSlots_l0, l8, e1, bt, bf, add1 (i := i) (by omega)]
    · have e1 : std.not (std.eq (i : Int) key) = true := by simp [e]
      obtain ⟨h1, h2⟩ := h i hi e
      have i1 : ∀ l : List Int, l.length = 8 → std.inb (i : Int) (std.ilen l) = true := fun l hl => by rw [std_ilen, hl]; exact inb_nat_t hi
      have g1 : std.not (std.eq (std.iget n (i : Int)) (std.iget m (i : Int))) = false := by
        rw [std_iget, std_iget, Int.toNat_natCast, h1]; simp
      have g2 : std.not (std.eq (std.iget o (i : Int)) (std.iget m (i : Int))) = false := by
        rw [std_iget, std_iget, Int.toNat_natCast, h2]; simp
      simp only [laws_FnSlots_l0, l8, e1, bt, bf, i1 n hn, i1 m hm, i1 o ho, g1, g2, add1 (i := i) (by omega)]
  · have l8 : std.lt ((8 : Nat) : Int) 8 = false := rfl
    simp only [laws_FnSlots_l0, l8, bf]
theorem big_val (code : List Int) (k : Bool → R) : laws_big std code k = k (std.lt 1048576 (std.ilen code)) := rfl
theorem FnSlots_true (code : List Int) (f : FitArr cx (.ints 5 .u8 code)) (k : Bool → R) : laws_FnSlots std code k = k true := by
  unfold laws_FnSlots laws_FnSlots_f
  simp only [big_val]
  by_cases hb : 1048576 < code.length
  · have e : std.lt 1048576 (std.ilen code) = true := by rw [std_lt, std_ilen]; exact decide_eq_true (by omega)
    simp only [e, bt]
  · have e : std.lt 1048576 (std.ilen code) = false := by rw [std_lt, std_ilen]; exact decide_eq_false (by omega)
    obtain ⟨l, key, v, hl, hd⟩ := DrawSlotPut_dr code (by omega)
    have hl2 : l.length ≤ 2147483648 := by omega
    simp only [e, bf, hd, (SlotPut_val l hl2 key v _).2, SlotsOk_val]
    generalize hN : std.fuel = N
    have hN : 4294967296 = N := hN
    have hq := put_ok l key v
    cases hp : (slotPut l key v).2.2
    · rw [put_false hp]
      rw [hp] at hq
      have bb : ∀ x : Bool, std.not (std.beq false x) = x := fun x => by cases x <;> rfl
      have nn : std.not false = true := rfl
      have ee : std.eq 0 0 = true := rfl
      simp only [bb, nn, bt, bf, sameInts_refl l hl2, ee]
      cases h1 : slotsOk l
      · rfl
      · rw [h1] at hq
        simp only [bt, std_le, std_lt]
        by_cases c1 : 0 ≤ key
        · by_cases c2 : key < 8
          · by_cases c3 : 0 ≤ v
            · have c4 : ¬ v < 65536 := fun c4 => by
                rw [keyOk_of ⟨c1, by omega⟩, valOk_of ⟨c3, by omega⟩] at hq; cases hq
              simp only [decide_eq_true c1, decide_eq_true c2, decide_eq_true c3, decide_eq_false c4, bt, bf]
            · simp only [decide_eq_true c1, decide_eq_true c2, decide_eq_false c3, bt, bf]
          · simp only [decide_eq_true c1, decide_eq_false c2, bt, bf]
        · simp only [decide_eq_false c1, bf]
    · rw [hp] at hq
      have hs : slotsOk l = true := by cases h : slotsOk l <;> rw [h] at hq <;> simp at hq ⊢
      have hk : keyOk key = true := by cases h : keyOk key <;> rw [h] at hq <;> simp at hq ⊢
      have hv : valOk v = true := by cases h : valOk v <;> rw [h] at hq <;> simp at hq ⊢
      have hk := keyOk_nn hk
      have hv := valOk_nn hv
      obtain ⟨x, y, p1, p2, p3, p4, p5, m1, m2, m3, m4, m5, m6, m7, m8⟩ := slots_all (slotsOk_iff.1 hs) hk hv
      have k8 : key.toNat < 8 := by omega
      have le1 : std.le 0 key = true := by rw [std_le]; exact decide_eq_true hk.1
      have lt1 : std.lt key 8 = true := by rw [std_lt]; exact decide_eq_true (by omega)
      have le2 : std.le 0 v = true := by rw [std_le]; exact decide_eq_true hv.1
      have lt2 : std.lt v 65536 = true := by rw [std_lt]; exact decide_eq_true (by omega)
      have bb : std.not (std.beq true true) = false := rfl
      have nt : std.not true = false := rfl
      have i8 : ∀ l : List Int, l.length = 8 → std.inb key (std.ilen l) = true := fun l hl => by rw [std_ilen, hl, std_inb]; exact decide_eq_true (by omega)
      have n8 : ∀ l : List Int, l.length = 8 → std.not (std.eq (std.ilen l) 8) = false := fun l hl => by rw [std_ilen, hl]; rfl
      have es : ∀ z : Int, std.not (std.eq z z) = false := fun z => by simp
      have ee : ∀ z : Int, std.eq z z = true := fun z => by simp
      have ad : std.add .i64 1 v = 1 + v := by rw [std_add]; exact i64_wrap (by omega) (by omega)
      have ad2 : std.add .i64 v 1 = v + 1 := by rw [std_add]; exact i64_wrap (by omega) (by omega)
      have xl : x.length ≤ 2147483648 := by rw [p4.1]; omega
      have g1 : std.iget (mapOf l) key = mv l key := by rw [std_iget]; exact m4
      have g2 : std.iget (mapOf x) key = v + 1 := by rw [std_iget]; exact m5
      have g3 : std.iget (mapOf y) key = 0 := by rw [std_iget]; exact m6
      obtain ⟨b1, b2⟩ := bucket_range (keyOk_of hk)
      have bl : std.le 0 (bucket key) = true := by rw [std_le]; exact decide_eq_true b1
      have bu : std.lt (bucket key) 4 = true := by rw [std_lt]; exact decide_eq_true (by omega)
      simp only [p1, hs, bt, bf, le1, lt1, le2, lt2, bb, nt, MapOf_eq, SlotGet_eq, p2, SlotDrop_eq x xl, p3, n8 _ m1, n8 _ m2, n8 _ m3, i8 _ m1, g1, es, ad]
      rw [FnSlots_loop _ _ _ _ _ _ _ _ _ _ key v x (mapOf l) (mapOf x) y (mapOf y) m1 m2 m3 m7 _ _ N (by omega)]
      simp only [i8 _ m2, i8 _ m3, g2, g3, ad2, ee, bt, slotsOk_iff.2 p4, slotsOk_iff.2 p5, SlotsFrom_eq (mapOf x) (by omega), m8, sameInts_refl (mapOf x) (by omega), bucket_eq, bucket_val, bl, bu]
end X
