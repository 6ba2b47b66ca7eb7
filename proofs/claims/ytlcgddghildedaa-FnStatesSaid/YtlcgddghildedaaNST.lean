/- Models of the functions, or plain laws about them; each theorem states its own conditions. -/
import Derived.Test.YtlcgddghildedaaNH2
import Derived.Test.YtlcgddghildedaaNMK
import Derived.Test.YtlcgddghildedaaNTi
set_option linter.unusedVariables false
set_option linter.unusedSimpArgs false
open Go.Proofs
namespace X
open PM Go
/-! ## The stamps, in order -/
def stA (a : List (List C)) (i : Nat) : Int := std.rint a (i : Int) 0
def stL (a : List (List C)) : List Int := (List.range a.length).map (stA a)
theorem stL_len (a : List (List C)) : (stL a).length = a.length := by simp [stL]
theorem stL_mem (a : List (List C)) (x : Int) : x ∈ stL a ↔ ∃ i, i < a.length ∧ x = stA a i := by
  unfold stL
  rw [List.mem_map]
  constructor
  · rintro ⟨i, h, rfl⟩; exact ⟨i, List.mem_range.1 h, rfl⟩
  · rintro ⟨i, h, rfl⟩; exact ⟨i, List.mem_range.2 h, rfl⟩
theorem hist_at {a : List (List C)} (h : histB a = true) {i : Nat} (hi : i < a.length) : (1 ≤ stA a i ∧ stA a i ≤ 1000000) ∧ rowsOk (std.rsv 2 a (i : Int) 2) = true ∧ ∀ j, j < i → stA a j ≠ stA a i := by
  unfold histB at h
  rw [Bool.and_eq_true] at h
  have h1 := allB_at h.2 hi
  unfold wroteOk at h1
  simp only [Bool.and_eq_true] at h1
  obtain ⟨h2, _, h4, h5⟩ := h1
  unfold inB at h2
  rw [decide_eq_true_eq] at h2
  refine ⟨h2, h4, fun j hj e => ?_⟩
  have := allB_at h5 hj
  rw [std_eq] at this
  have e : std.rint a (j : Int) 0 = std.rint a (i : Int) 0 := e
  rw [e] at this
  simp at this
theorem hist_len {a : List (List C)} (h : histB a = true) : a.length ≤ 200 := by
  unfold histB at h
  rw [Bool.and_eq_true] at h
  have := h.1
  rw [std_lt, std_rlen] at this
  simp at this
  omega
theorem hist_inj {a : List (List C)} (h : histB a = true) {i j : Nat} (hi : i < a.length) (hj : j < a.length) (e : stA a i = stA a j) : i = j := by
  rcases Nat.lt_trichotomy i j with g | g | g
  · exact absurd e ((hist_at h hj).2.2 i g)
  · exact g
  · exact absurd e.symm ((hist_at h hi).2.2 j g)
def stS (a : List (List C)) : List Int := PM.srtI (stL a)
theorem stS_len (a : List (List C)) : (stS a).length = a.length := by unfold stS; rw [List.length_mergeSort, stL_len]
theorem stS_mem (a : List (List C)) (x : Int) : x ∈ stS a ↔ ∃ i, i < a.length ∧ x = stA a i := by
  unfold stS
  rw [(List.mergeSort_perm (stL a) _).mem_iff, stL_mem]
theorem stL_nodup {a : List (List C)} (h : histB a = true) : (stL a).Nodup := by
  unfold stL
  rw [List.nodup_iff_pairwise_ne, List.pairwise_map]
  rw [List.pairwise_iff_getElem]
  intro i j hi hj hij
  have hi' : i < a.length := by simpa using hi
  have hj' : j < a.length := by simpa using hj
  simp only [List.getElem_range]
  exact fun e => by have := hist_inj h hi' hj' e; omega
theorem stS_sorted {a : List (List C)} (h : histB a = true) : (stS a).Pairwise (· < ·) := by
  have h1 : (stS a).Pairwise (fun x y => decide (x ≤ y) = true) := List.pairwise_mergeSort (le := fun x y : Int => decide (x ≤ y)) (fun x y z h1 h2 => by simp at *; omega) (fun x y => by simp; omega) (stL a)
  have h2 : (stS a).Nodup := (List.mergeSort_perm (stL a) _).nodup_iff.2 (stL_nodup h)
  rw [List.nodup_iff_pairwise_ne] at h2
  exact (h1.and h2).imp fun ⟨p, q⟩ => by simp at p; omega
theorem stS_lt {a : List (List C)} (h : histB a = true) {i j : Nat} (hij : i < j) (hj : j < a.length) : (stS a).getD i 0 < (stS a).getD j 0 := by
  have := (List.pairwise_iff_getElem.1 (stS_sorted h)) i j (by rw [stS_len]; omega) (by rw [stS_len]; exact hj) hij
  rwa [List.getD_eq_getElem?_getD, List.getD_eq_getElem?_getD, List.getElem?_eq_getElem (by rw [stS_len]; omega), List.getElem?_eq_getElem (by rw [stS_len]; exact hj)]
theorem stS_at {a : List (List C)} {j : Nat} (hj : j < a.length) : ∃ i, i < a.length ∧ (stS a).getD j 0 = stA a i := by
  refine (stS_mem a _).1 ?_
  rw [List.getD_eq_getElem?_getD, List.getElem?_eq_getElem (by rw [stS_len]; exact hj)]
  exact List.getElem_mem _
theorem stS_of {a : List (List C)} {i : Nat} (hi : i < a.length) : ∃ j, j < a.length ∧ (stS a).getD j 0 = stA a i := by
  have := (stS_mem a _).2 ⟨i, hi, rfl⟩
  obtain ⟨j, hj, e⟩ := List.getElem_of_mem this
  exact ⟨j, by rw [← stS_len]; exact hj, by rw [List.getD_eq_getElem?_getD, List.getElem?_eq_getElem hj]; exact e⟩

/-! The next greater one. -/
def nxG (a : List (List C)) (last : Int) (i : Nat) (b : Int) : Int := bif std.lt last (stA a i) then (bif std.lt (stA a i) b then stA a i else b) else b
theorem nxG_spec (a : List (List C)) (last : Int) : ∀ (m i : Nat) (b : Int), i + m = a.length →
    let r := foldN (nxG a last) m i b
    r ≤ b ∧ (r = b ∨ ∃ q, q < a.length ∧ r = stA a q ∧ last < stA a q) ∧ ∀ q, i ≤ q → q < a.length → last < stA a q → r ≤ stA a q
  | 0, i, b, h => ⟨Int.le_refl _, .inl rfl, fun q h1 h2 => by omega⟩
  | m + 1, i, b, h => by
    obtain ⟨h1, h2, h3⟩ := nxG_spec a last m (i + 1) (nxG a last i b) (by omega)
    have hg : nxG a last i b ≤ b ∧ (nxG a last i b = b ∨ (nxG a last i b = stA a i ∧ last < stA a i)) ∧ (last < stA a i → nxG a last i b ≤ stA a i) := by
      unfold nxG
      rw [std_lt, std_lt]
      by_cases c1 : last < stA a i
      · by_cases c2 : stA a i < b
        · simp only [c1, c2, decide_true, cond_true]
          exact ⟨by omega, by simp, by simp⟩
        · simp only [c1, c2, decide_true, decide_false, cond_true, cond_false]
          exact ⟨Int.le_refl _, by simp, by first | omega | (intro _; omega)⟩
      · simp only [c1, decide_false, cond_false]
        exact ⟨Int.le_refl _, by simp, by simp⟩
    refine ⟨Int.le_trans h1 hg.1, ?_, fun q q1 q2 q3 => ?_⟩
    · rcases h2 with h2 | h2
      · rcases hg.2.1 with g | g
        · exact .inl (h2.trans g)
        · exact .inr ⟨i, by omega, h2.trans g.1, g.2⟩
      · exact .inr h2
    · by_cases e : q = i
      · subst e
        exact Int.le_trans h1 (hg.2.2 q3)
      · exact h3 q (by omega) q2 q3
def sgA (a : List (List C)) (j : Nat) : Int := if j = 0 then 0 else (stS a).getD (j - 1) 0
theorem nx_at {a : List (List C)} (h : histB a = true) {j : Nat} (hj : j < a.length) : foldN (nxG a (sgA a j)) a.length 0 1000001 = (stS a).getD j 0 := by
  obtain ⟨h1, h2, h3⟩ := nxG_spec a (sgA a j) a.length 0 1000001 (by omega)
  generalize foldN (nxG a (sgA a j)) a.length 0 1000001 = r at h1 h2 h3
  obtain ⟨i, hi, ei⟩ := stS_at (a := a) hj
  have b1 := (hist_at h hi).1
  have hlt : sgA a j < stA a i := by
    unfold sgA
    split
    · omega
    · rw [← ei]; exact stS_lt h (by omega) hj
  have h4 := h3 i (Nat.zero_le _) hi hlt
  rcases h2 with h2 | ⟨q, hq, e, hl⟩
  · omega
  · obtain ⟨p, hp, ep⟩ := stS_of (a := a) hq
    rcases Nat.lt_trichotomy p j with g | g | g
    · exfalso
      unfold sgA at hl
      rw [if_neg (by omega)] at hl
      rcases Nat.lt_or_ge p (j - 1) with g2 | g2
      · have := stS_lt h g2 (show j - 1 < a.length by omega); omega
      · have : p = j - 1 := by omega
        subst this; omega
    · subst g; rw [e, ep]
    · have := stS_lt h g hp; omega

theorem Stamps_in (a : List (List C)) (hb : a.length ≤ 1048576) (last : Int) (o : List Int) (N : Nat) (hN : a.length < N) (kx : List (List C) → Int → List Int → R) :
    spec_Stamps_l2 std (spec_HistOk std) N a last 1000001 0 o kx = kx a (foldN (nxG a last) a.length 0 1000001) o := by
  refine loop_fo (P := fun _ : Int => True) (F := fun n i b => spec_Stamps_l2 std (spec_HistOk std) n a last b i o kx) (k := fun b => kx a b o) hN (fun n i b hi _ => ?_) (fun _ _ _ _ => trivial) (fun n b _ => ?_) trivial
  · simp only [spec_Stamps_l2, std_rlen, lt_nat_t hi, inb_nat_t hi, bt, add1 (i := i) (by omega)]
    unfold nxG stA
    cases std.lt last (std.rint a (i : Int) 0)
    · rfl
    · cases std.lt (std.rint a (i : Int) 0) b <;> rfl
  · simp only [spec_Stamps_l2, std_rlen, lt_nat_f (Nat.le_refl _), bf]
theorem take_snoc (l : List Int) (j : Nat) (h : j < l.length) : l.take j ++ [l.getD j 0] = l.take (j + 1) := (take_succ' l 0 j h).symm
theorem Stamps_out {a : List (List C)} (h : histB a = true) (kx : List Int → R) : ∀ (m N j : Nat), j + m = a.length → m < N →
    spec_Stamps_l0 std (spec_HistOk std) N a (sgA a j) ((stS a).take j) kx = kx (stS a)
  | 0, N + 1, j, hj, hn => by
    have e : j = (stS a).length := by rw [stS_len]; omega
    unfold spec_Stamps_l0
    rw [e, List.take_length, std_ilen, std_rlen, stS_len, lt_nat_f (Nat.le_refl _), bf]
  | m + 1, N + 1, j, hj, hn => by
    have hl := hist_len h
    have ih := Stamps_out h kx m N (j + 1) (by omega) (by omega)
    have hjs : j < (stS a).length := by rw [stS_len]; omega
    have hlen : ((stS a).take j).length = j := by rw [List.length_take]; omega
    have e2 : sgA a (j + 1) = (stS a).getD j 0 := by unfold sgA; rw [if_neg (by omega)]; rfl
    unfold spec_Stamps_l0
    rw [std_ilen, hlen, std_rlen, lt_nat_t (show j < a.length by omega), bt, Stamps_in a (by omega) _ _ std.fuel (by rw [std_fuel]; omega), nx_at h (by omega)]
    have e3 : std.room (std.ilen ((stS a).take j)) (std.ilen [(stS a).getD j 0]) = true := by rw [std_room, std_ilen, std_ilen, hlen]; exact decide_eq_true (by simp; omega)
    rw [e3, bt, std_iapp, take_snoc _ _ hjs, ← e2]
    exact ih
theorem Stamps_sp (a : List (List C)) (hb : bWroteS a) (k : List Int → R) : spec_Stamps std a k = k (bif histB a then stS a else []) := by
  unfold spec_Stamps spec_Stamps_f
  rw [HistOk_sp a hb]
  cases h : histB a
  · rfl
  · have := Stamps_out h k a.length std.fuel 0 (by omega) (by rw [std_fuel]; have := hb.1; omega)
    rw [not_true', bf, bt]
    exact this
theorem Stamps_im (a : List (List C)) (hb : bWroteS a) (k : List Int → R) : impl_Stamps std a k = k (bif histB a then stS a else []) := by
  unfold impl_Stamps impl_Stamps_f
  rw [HistOk_im a hb]
  cases h : histB a
  · rfl
  · have hl := hist_len h
    rw [not_true', bf, bt, std_rlen]
    have hlen : ∀ i, ((List.range i).map (stA a)).length = i := fun i => by simp
    have key : ∀ (m N i : Nat), i + m = a.length → m < N → impl_Stamps_l0 std (impl_HistOk std) (slices_Sort___int_int_ std) N a (a.length : Int) (i : Int) ((List.range i).map (stA a)) (fun o => slices_Sort___int_int_ std o k) = slices_Sort___int_int_ std (stL a) k := by
      intro m
      induction m with
      | zero =>
        intro N i hi hn
        obtain ⟨N, rfl⟩ : ∃ q, N = q + 1 := ⟨N - 1, by omega⟩
        have : i = a.length := by omega
        subst this
        simp only [impl_Stamps_l0, lt_nat_f (Nat.le_refl _), bf]
        rfl
      | succ m ih =>
        intro N i hi hn
        obtain ⟨N, rfl⟩ : ∃ q, N = q + 1 := ⟨N - 1, by omega⟩
        have e3 : std.room (std.ilen ((List.range i).map (stA a))) (std.ilen [std.rint a (i : Int) 0]) = true := by rw [std_room, std_ilen, std_ilen, hlen]; exact decide_eq_true (by simp; omega)
        simp only [impl_Stamps_l0, std_rlen, lt_nat_t (show i < a.length by omega), inb_nat_t (show i < a.length by omega), bt, e3, add1 (i := i) (by omega)]
        have e4 : std.iapp ((List.range i).map (stA a)) [std.rint a (i : Int) 0] = (List.range (i + 1)).map (stA a) := by rw [List.range_succ, List.map_append]; rfl
        rw [e4]
        exact ih N (i + 1) (by omega) (by omega)
    refine (key a.length std.fuel 0 (by omega) (by rw [std_fuel]; omega)).trans ?_
    unfold slices_Sort___int_int_
    rw [if_pos (by rw [stL_len]; omega)]
    rfl
theorem WroteS_c (a : List (List C)) (h : bWroteS a) : laws_markWroteS_c a ≤ 3298534883328 := by
  unfold laws_markWroteS_c
  refine Nat.le_trans (sumN_bd _ _ 3145728 fun i hi => ?_) (Nat.le_trans (Nat.mul_le_mul_right _ h.1) (by omega))
  have h1 : (std.rsv 2 a (i : Int) 2).length ≤ 1048576 := h.2 i hi
  unfold laws_markWroteS_e
  have e2 := rsv_len 2 a (i : Int) 2
  rw [Int.toNat_natCast] at e2
  rw [RowS_c, e2]
  omega
theorem markWroteS_eq (a : List (List C)) (h : bWroteS a) (k0 : Int) (h0 : 0 ≤ k0) (h1 : k0 ≤ 1048577) : ∃ m : Int, 0 ≤ m ∧ m ≤ 4398046511104 ∧ ∀ k : Int → R, laws_markWroteS std a k0 k = k m := by
  have hc := WroteS_c a h
  refine ⟨k0 + (laws_markWroteS_c a : Nat), by omega, by omega, fun k => ?_⟩
  unfold laws_markWroteS
  have hr : PM.rowsOf (.rows 33 a) = a := rfl
  rw [hr, if_pos]
  exact ⟨h0, by omega, by have := h.1; omega⟩
theorem Stamps_len (a : List (List C)) (h : a.length ≤ 1048576) : (bif histB a then stS a else []).length ≤ 1048576 := by
  cases histB a
  · simp
  · rw [bt, stS_len]; exact h
theorem Stamps_true (a : List (List C)) (f2 : FitArr cx (.rows 195 a)) (k : Bool → R) : laws_FnExactStamps std a k = k true := by
  obtain ⟨v, v1, v2, v3⟩ := szWroteS_v a f2 1048576 (by omega) (by omega)
  unfold laws_FnExactStamps laws_FnExactStamps_f
  simp only [v3]
  by_cases hc : v < 0
  · simp only [lt0_t hc, bt]
  have b := v2 (by omega)
  have c2 := bWroteS_n _ b
  have hj := Stamps_len (nWroteS a) c2.1
  simp only [lt0_f hc, bf, toWroteS_v a b, Stamps_sp _ c2, Stamps_im _ c2]
  generalize (bif histB (nWroteS a) then stS (nWroteS a) else []) = g at hj
  obtain ⟨m, m1, m2, m3⟩ := markWroteS_eq (nWroteS a) c2 1 (by omega) (by omega)
  simp only [eqIntS_r g hj, eqWroteS_r _ c2, not_true', bf, m3, ge0_f m1, markIntS_eq g 1 (by omega) (by omega) (by omega),
    heldIntS_eq 1 g.length (by omega) (by omega) (by omega), ge0_f (show (0 : Int) ≤ 1 + (g.length : Int) by omega), eq_self]
end X
