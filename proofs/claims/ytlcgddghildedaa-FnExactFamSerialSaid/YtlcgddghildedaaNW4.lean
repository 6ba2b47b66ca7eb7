/- Models of the functions, or plain laws about them; each theorem states its own conditions. -/
import Derived.Test.YtlcgddghildedaaNW3
set_option linter.unusedVariables false
set_option linter.unusedSimpArgs false
open Go.Proofs
namespace X
open PM Go
set_option maxHeartbeats 1000000
/-! ## The order of the kids -/
theorem contains_all (s : List Int) (v : Int) : (!allB (fun i => !(std.eq v (std.iget s (i : Int)))) s.length) = s.contains v := by
  rw [Bool.eq_iff_iff, Bool.not_eq_true', Bool.eq_false_iff, Ne, allB_iff, List.contains_iff_mem]
  constructor
  · intro h
    refine Classical.byContradiction fun hn => h fun i hi => ?_
    rw [Bool.not_eq_true', std_iget, Int.toNat_natCast]
    refine eqn fun e => hn ?_
    rw [e]
    exact getD_mem hi
  · intro hm h
    obtain ⟨i, hi, e⟩ := mem_getD 0 hm
    have := h i hi
    rw [std_iget, Int.toNat_natCast, e, eqt] at this
    cases this
theorem Contains_val (s : List Int) (hb : s.length ≤ 2147483648) (v : Int) (k : Bool → R) : slices_Contains___int_int_ std s v k = k (s.contains v) := by
  unfold slices_Contains___int_int_ slices_Contains___int_int__f slices_Index___int_int_ slices_Index___int_int__f
  generalize hF : std.fuel = N
  have hN : 4294967296 = N := hF
  rw [std_ilen, ← contains_all]
  exact loop_any (p := fun i => std.eq v (std.iget s (i : Int))) (k := k) (F := fun n i => slices_Index___int_int__l0 std n s v s.length i (fun t => k (std.le 0 t)) (fun _ => k (std.le 0 (-1)))) (len := s.length) (N := N) (by omega)
    (fun n i hi => by simp only [slices_Index___int_int__l0, std_ilen, lt_nat_t hi, inb_nat_t hi, bt, add1 (i := i) (by omega)])
    (fun n => by simp only [slices_Index___int_int__l0, lt_nat_f (Nat.le_refl _), bf])
def ordP (a : List Int) (n : Nat) (i : Nat) : Bool := inB (std.iget a (i : Int)) 0 ((n : Int) - 1) && !((a.take i).contains (std.iget a (i : Int)))
def foG (a : List Int) (q : Nat) (o : List Int) : List Int := bif a.contains (q : Int) then o else o ++ [(q : Int)]
def fullO (a : List Int) (n : Nat) : List Int := foldN (foG a) n 0 a
theorem orderOk_val (a : List Int) (n : Nat) (hn : n ≤ 3) (hb : a.length ≤ 1048576) (k : Bool → R) : impl_orderOk std a (n : Int) k = k (allB (ordP a n) a.length) := by
  unfold impl_orderOk impl_orderOk_f
  generalize hF : std.fuel = N
  have hN : 4294967296 = N := hF
  rw [std_ilen]
  have lp : impl_orderOk_l0 std (impl_within std) (slices_Contains___int_int_ std) N a (n : Int) a (a.length : Int) 0 (fun t => k t) (fun _ => k true) = bif allB (ordP a n) a.length then k true else k false := by
    refine loop_all0 (F := fun m i => impl_orderOk_l0 std (impl_within std) (slices_Contains___int_int_ std) m a (n : Int) a (a.length : Int) i (fun t => k t) (fun _ => k true)) (by omega) (fun m i hi => ?_) (fun m => ?_)
    · have es : std.subb 0 (i : Int) (a.length : Int) = true := decide_eq_true (by omega)
      have ep : std.sub .i64 (n : Int) 1 = (n : Int) - 1 := subw (by omega) (by omega)
      have et : std.isub a 0 (i : Int) = a.take i := by
        show (a.drop (0 : Int).toNat).take ((i : Int).toNat - (0 : Int).toNat) = _
        simp
      simp only [impl_orderOk_l0, std_ilen, lt_nat_t hi, inb_nat_t hi, bt, in_val', ep, bif_not, es, et, Contains_val (a.take i) (by simp; omega), ordP, add1 (i := i) (by omega)]
      cases inB (std.iget a (i : Int)) 0 ((n : Int) - 1) <;> cases (a.take i).contains (std.iget a (i : Int)) <;> rfl
    · simp only [impl_orderOk_l0, lt_nat_f (Nat.le_refl _), bf]
  rw [lp]
  cases allB (ordP a n) a.length <;> rfl
theorem foG_len (a : List Int) : ∀ (m i : Nat) (o : List Int), (foldN (foG a) m i o).length ≤ o.length + m
  | 0, _, _ => Nat.le_refl _
  | m + 1, i, o => by
    have h := foG_len a m (i + 1) (foG a i o)
    have : (foG a i o).length ≤ o.length + 1 := by
      unfold foG
      cases a.contains (i : Int)
      · rw [bf, List.length_append]; exact Nat.le_refl _
      · rw [bt]; omega
    show (foldN (foG a) m (i + 1) (foG a i o)).length ≤ _
    omega
def seenOf (l : List Int) : List Bool := [l.contains 0, l.contains 1, l.contains 2]
theorem seen_get (l : List Int) {x : Int} (h : inB x 0 2 = true) : std.inb x (std.blen (seenOf l)) = true ∧ std.bget (seenOf l) x = l.contains x := by
  have h := of_decide_eq_true h
  have : x = 0 ∨ x = 1 ∨ x = 2 := by omega
  rcases this with rfl | rfl | rfl <;> exact ⟨rfl, rfl⟩
theorem seen_set (l : List Int) {x : Int} (h : inB x 0 2 = true) : std.bset (seenOf l) x true = seenOf (l ++ [x]) := by
  have h := of_decide_eq_true h
  have c : ∀ y : Int, (l ++ [x]).contains y = (l.contains y || (y == x)) := fun y => by
    rw [Bool.eq_iff_iff, List.contains_iff_mem, Bool.or_eq_true, List.contains_iff_mem, List.mem_append, List.mem_singleton, beq_iff_eq]
  have : x = 0 ∨ x = 1 ∨ x = 2 := by omega
  unfold seenOf
  rw [c, c, c]
  rcases this with rfl | rfl | rfl
  · show [true, l.contains 1, l.contains 2] = [l.contains 0 || true, l.contains 1 || false, l.contains 2 || false]
    simp only [Bool.or_true, Bool.or_false]
  · show [l.contains 0, true, l.contains 2] = [l.contains 0 || false, l.contains 1 || true, l.contains 2 || false]
    simp only [Bool.or_true, Bool.or_false]
  · show [l.contains 0, l.contains 1, true] = [l.contains 0 || false, l.contains 1 || false, l.contains 2 || true]
    simp only [Bool.or_true, Bool.or_false]
theorem full_l (a : List Int) (n : Nat) (hn : n ≤ 3) (hb : a.length ≤ 1048576) (k : List Int → R) : ∀ (m i : Nat) (o : List Int) (N : Nat), i + m = n → m < N → o.length ≤ 1048576 + i →
    impl_fullOrder_l0 std (slices_Contains___int_int_ std) (impl_copyInts std) N a (n : Int) (i : Int) o (fun o => k o) = k (foldN (foG a) m i o) ∧ spec_l7Order_l2 std (spec_l1In std) N (n : Int) (i : Int) o (seenOf a) (fun o => k o) = k (foldN (foG a) m i o)
  | m, i, o, 0, _, h, _ => absurd h (Nat.not_lt_zero _)
  | 0, i, o, N + 1, h, _, _ => by
    simp only [impl_fullOrder_l0, spec_l7Order_l2, lt_nat_f (show n ≤ i by omega), bf]
    exact ⟨rfl, rfl⟩
  | m + 1, i, o, N + 1, h, h2, hl => by
    have hi : i < n := by omega
    obtain ⟨s1, s2⟩ := seen_get a (x := (i : Int)) (decide_eq_true (by omega))
    have rm : std.room (std.ilen o) (std.ilen [(i : Int)]) = true := by rw [std_room, std_ilen, std_ilen]; exact decide_eq_true (by simp; omega)
    have ih := full_l a n hn hb k m (i + 1) (foG a i o) N (by omega) (by omega) (by
      unfold foG
      cases a.contains (i : Int)
      · rw [bf, List.length_append]; show o.length + 1 ≤ _; omega
      · rw [bt]; omega)
    show _ = k (foldN (foG a) m (i + 1) (foG a i o)) ∧ _ = k (foldN (foG a) m (i + 1) (foG a i o))
    rw [← ih.1] 
    refine ⟨?_, ih.1 ▸ ih.2 ▸ ?_⟩
    · simp only [impl_fullOrder_l0, lt_nat_t hi, bt, Contains_val a (by omega), bif_not, rm, foG, add1 (i := i) (by omega)]
      cases a.contains (i : Int) <;> rfl
    · simp only [spec_l7Order_l2, lt_nat_t hi, bt, s1, s2, bif_not, rm, foG, add1 (i := i) (by omega)]
      cases a.contains (i : Int) <;> rfl
theorem fullOrder_val (a : List Int) (n : Nat) (hn : n ≤ 3) (hb : a.length ≤ 1048576) (k : List Int → R) : impl_fullOrder std a (n : Int) k = k (fullO a n) := by
  unfold impl_fullOrder impl_fullOrder_f fullO
  generalize hF : std.fuel = N
  have hN : 4294967296 = N := hF
  rw [copyInts_val a hb]
  exact (full_l a n hn hb k n 0 a N (by omega) (by omega) (by omega)).1
theorem l7Order_val (a : List Int) (n : Nat) (hn : n ≤ 3) (hb : a.length ≤ 1048576) (k : List Int → Bool → R) (y : R) (hy : ∀ o, k o false = y) : spec_l7Order std a (n : Int) k = bif allB (ordP a n) a.length then k (fullO a n) true else y := by
  unfold spec_l7Order spec_l7Order_f fullO
  generalize hF : std.fuel = N
  have hN : 4294967296 = N := hF
  have lp : ∀ yes, (spec_l7Order_l2 std (spec_l1In std) N (n : Int) 0 a (seenOf a) (fun o => k o true) = yes) → spec_l7Order_l0 std (spec_l1In std) N a (n : Int) 0 [] (std.bzero 3) (fun t o => k o t) (fun n9 o o1 => spec_l7Order_l2 std (spec_l1In std) N n9 0 o o1 (fun o => k o true)) = bif allB (ordP a n) a.length then yes else y := fun yes hyes => by
    refine loop_all0 (F := fun m z => spec_l7Order_l0 std (spec_l1In std) m a (n : Int) z (a.take z.toNat) (seenOf (a.take z.toNat)) (fun t o => k o t) (fun n9 o o1 => spec_l7Order_l2 std (spec_l1In std) N n9 0 o o1 (fun o => k o true))) (by omega) (fun m i hi => ?_) (fun m => ?_)
    · have ep : std.sub .i64 (n : Int) 1 = (n : Int) - 1 := subw (by omega) (by omega)
      simp only [spec_l7Order_l0, std_ilen, lt_nat_t hi, inb_nat_t hi, bt, in_val, ep, bif_not, Int.toNat_natCast, ordP, add1 (i := i) (by omega)]
      cases hx : inB (std.iget a (i : Int)) 0 ((n : Int) - 1)
      · exact hy _
      · have hx2 : inB (std.iget a (i : Int)) 0 2 = true := by
          have := of_decide_eq_true hx
          exact decide_eq_true (by omega)
        obtain ⟨s1, s2⟩ := seen_get (a.take i) hx2
        have rm : std.room ((a.take i).length : Int) ([std.iget a (i : Int)].length : Int) = true := by rw [std_room]; exact decide_eq_true (by simp; omega)
        have e1 : a.take (i + 1) = std.iapp (a.take i) [std.iget a (i : Int)] := by
          rw [take_succ' a 0 i hi, std_iapp, std_iget, Int.toNat_natCast]
        have e2 : std.bset (seenOf (a.take i)) (std.iget a (i : Int)) true = seenOf (std.iapp (a.take i) [std.iget a (i : Int)]) := seen_set _ hx2
        simp only [bt, s1, s2, rm, e1, e2, Bool.true_and]
        cases (a.take i).contains (std.iget a (i : Int))
        · rfl
        · exact hy _
    · simp only [spec_l7Order_l0, std_ilen, lt_nat_f (Nat.le_refl _), bf, Int.toNat_natCast, List.take_length]
      exact hyes
  have f := (full_l a n hn hb (fun o => k o true) n 0 a N (by omega) (by omega) (by omega)).2
  have m3 : std.mkOk 3 = true := rfl
  have l3 : std.le 3 3 = true := rfl
  simp only [m3, l3, bt]
  exact lp _ f
theorem full_in {a : List Int} {n : Nat} (hn : n ≤ 3) (ha : allB (ordP a n) a.length = true) : ∀ x ∈ fullO a n, ∃ q : Nat, q < n ∧ x = (q : Int) := by
  refine foldN_P (P := fun o : List Int => ∀ x ∈ o, ∃ q : Nat, q < n ∧ x = (q : Int)) (len := n) (fun i o hi h x hx => ?_) n 0 a (Nat.zero_add _) fun x hx => ?_
  · unfold foG at hx
    cases hc : a.contains (i : Int)
    · rw [hc, bf, List.mem_append, List.mem_singleton] at hx
      rcases hx with hx | rfl
      · exact h x hx
      · exact ⟨i, hi, rfl⟩
    · rw [hc, bt] at hx; exact h x hx
  · obtain ⟨i, hi, e⟩ := mem_getD 0 hx
    have h := allB_at ha hi
    unfold ordP at h
    rw [Bool.and_eq_true, std_iget, Int.toNat_natCast, e] at h
    have := of_decide_eq_true h.1
    exact ⟨x.toNat, by omega, by omega⟩
theorem full_len (a : List Int) (n : Nat) : (fullO a n).length ≤ a.length + n := foG_len a n 0 a
end X
