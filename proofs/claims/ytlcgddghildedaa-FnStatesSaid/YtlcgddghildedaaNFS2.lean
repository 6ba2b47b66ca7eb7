/- Models of the functions, or plain laws about them; each theorem states its own conditions. -/
import Derived.Test.YtlcgddghildedaaNFS
set_option linter.unusedVariables false
set_option linter.unusedSimpArgs false
open Go.Proofs
namespace X
open PM Go
/-! ## FnStates, once what is drawn is known -/
theorem big_val' (code : List Int) (k : Bool → R) : laws_big std code k = k (std.lt 1048576 (std.ilen code)) := rfl
theorem sameInts_rf (a : List Int) (hb : a.length ≤ 2147483648) (k : Bool → R) : laws_sameInts std a a k = k true := by
  unfold laws_sameInts laws_sameInts_f
  generalize hN : std.fuel = N
  have hN : 4294967296 = N := hN
  have e : std.not (std.eq (std.ilen a) (std.ilen a)) = false := by simp
  have lp : laws_sameInts_l0 std N a a 0 (fun t => k t) (fun _ => k true) = k true := by
    refine loop_true (F := fun n i => laws_sameInts_l0 std n a a i (fun t => k t) (fun _ => k true)) (len := a.length) (by omega) (fun n i hi => ?_) (fun n => ?_)
    · have e2 : ∀ x : Int, std.not (std.eq x x) = false := fun x => by simp
      simp only [laws_sameInts_l0, std_ilen, lt_nat_t hi, inb_nat_t hi, bt, bf, e2, add1 (i := i) (by omega)]
    · simp only [laws_sameInts_l0, std_ilen, lt_nat_f (Nat.le_refl _), bf]
  rw [e, bf, lp]
section
variable (c24 : spec_HistOk_T) (c27 : impl_Stamps_T) (c29 : spec_Overlay_T) (c23 : impl_StateAt_T) (c21 : laws_big_T) (c22 : spec_DrawStateAt_T) (c25 : impl_LastWriter_T) (c26 : spec_Last_T) (c28 : laws_sameInts_T)
theorem States_l2 (a : List (List C)) (hb : bWroteS a) (v x : List Int) (n w : Int) (hx : x.length = 8) {c : Nat} (hc : c < 8) (hok : ∀ k, k < a.length → stA a k = w → (lastV (putA a k) (c : Int)).1 = x.getD c 0)
    (kret : Bool → R) (kx : List Int → List (List C) → Int → List Int → Int → R) (N : Nat) (hN : a.length < N) :
    laws_FnStates_l2 std c24 c27 c29 c23 c21 c22 c25 (spec_Last std) c28 N v a n x (c : Int) w 0 kret kx = kx v a n x (c : Int) := by
  have hb1 := hb.1
  refine loop_true (F := fun m k => laws_FnStates_l2 std c24 c27 c29 c23 c21 c22 c25 (spec_Last std) c28 m v a n x (c : Int) w k kret kx) (len := a.length) hN (fun m k hk => ?_) (fun m => ?_)
  · have b1 : (std.rsv 2 a (k : Int) 2).length ≤ 1048576 := hb.2 k hk
    have hcx : std.inb (c : Int) (std.ilen x) = true := by rw [std_ilen]; exact inb_nat_t (by omega)
    by_cases e : stA a k = w
    · have e1 : std.eq (std.rint a (k : Int) 0) w = true := by rw [std_eq]; exact beq_iff_eq.2 e
      have h2 : (lastV (std.rsv 2 a (k : Int) 2) (c : Int)).1 = x.getD c 0 := hok k hk e
      have e2 : std.not (std.eq (std.iget x (c : Int)) (x.getD c 0)) = false := by rw [std_iget, Int.toNat_natCast]; simp
      simp only [laws_FnStates_l2, std_rlen, lt_nat_t hk, inb_nat_t hk, bt, e1, (Last_val _ b1 (c : Int) _).1, hcx, h2, e2, bf, add1 (i := k) (by omega)]
    · have e1 : std.eq (std.rint a (k : Int) 0) w = false := by rw [std_eq]; exact beq_eq_false_iff_ne.2 e
      simp only [laws_FnStates_l2, std_rlen, lt_nat_t hk, inb_nat_t hk, bt, e1, bf, add1 (i := k) (by omega)]
  · simp only [laws_FnStates_l2, std_rlen, lt_nat_f (Nat.le_refl _), bf]
theorem States_l0 (a : List (List C)) (hb : bWroteS a) (h : histB a = true) (v : List Int) (hv : valsB v 8 = true) (n : Int) (kret : Bool → R) (kx : List Int → List (List C) → List Int → R) (N : Nat) (hN : 8 < N) :
    laws_FnStates_l0 std c24 c27 c29 c23 c21 c22 (impl_LastWriter std) (spec_Last std) c28 N v a n (saV v a n) 0 kret kx = kx v a (saV v a n) := by
  have hb1 := hb.1
  have h8 := saV_len8 h hv n
  have hv8 := (vals_iff.1 hv).1
  refine loop_true (F := fun m c => laws_FnStates_l0 std c24 c27 c29 c23 c21 c22 (impl_LastWriter std) (spec_Last std) c28 m v a n (saV v a n) c kret kx) (len := 8) hN (fun m c hc => ?_) (fun m => ?_)
  · obtain ⟨q1, q2⟩ := last_at h hv n hc
    have hl2 := fun kret kx => States_l2 c24 c27 c29 c23 c21 c22 (impl_LastWriter std) c28 a hb v (saV v a n) n (lwV a (c : Int) n) h8 hc q2 kret kx std.fuel (by rw [std_fuel]; omega)
    have hcx : std.inb (c : Int) (std.ilen (saV v a n)) = true := by rw [std_ilen]; exact inb_nat_t (by omega)
    have hcv : std.inb (c : Int) (std.ilen v) = true := by rw [std_ilen]; exact inb_nat_t (by omega)
    have hlt : std.lt (c : Int) (std.ilen (saV v a n)) = true := by rw [std_ilen]; exact lt_nat_t (by omega)
    by_cases e : lwV a (c : Int) n = 0
    · have e1 : std.eq (lwV a (c : Int) n) 0 = true := by rw [std_eq]; exact beq_iff_eq.2 e
      have e2 : std.not (std.eq (std.iget (saV v a n) (c : Int)) (std.iget v (c : Int))) = false := by rw [std_iget, std_iget, Int.toNat_natCast, q1 e]; simp
      simp only [laws_FnStates_l0, hlt, bt, LastWriter_im a hb, e1, hcx, hcv, e2, bf, hl2, add1 (i := c) (by omega)]
    · have e1 : std.eq (lwV a (c : Int) n) 0 = false := by rw [std_eq]; exact beq_eq_false_iff_ne.2 e
      simp only [laws_FnStates_l0, hlt, bt, LastWriter_im a hb, e1, bf, hl2, add1 (i := c) (by omega)]
  · have hlt : std.lt ((8 : Nat) : Int) (std.ilen (saV v a n)) = false := by rw [std_ilen]; exact lt_nat_f (by omega)
    simp only [laws_FnStates_l0, hlt, bf]
theorem States_l6 (a : List (List C)) (hb : bWroteS a) (h : histB a = true) (v : List Int) (hv : valsB v 8 = true) (x : List Int) {i : Nat} (hi : i < a.length) (kret : Bool → R) (kx : List Int → List (List C) → List Int → List Int → Int → R) (N : Nat) (hN : a.length < N) :
    laws_FnStates_l6 std c24 c27 (spec_Overlay std) (impl_StateAt std) c21 c22 c25 c26 (laws_sameInts std) N v a x (stS a) (i : Int) 0 kret kx = kx v a x (stS a) (i : Int) := by
  have hb1 := hb.1
  have hv8 := (vals_iff.1 hv).1
  refine loop_true (F := fun m k => laws_FnStates_l6 std c24 c27 (spec_Overlay std) (impl_StateAt std) c21 c22 c25 c26 (laws_sameInts std) m v a x (stS a) (i : Int) k kret kx) (len := a.length) hN (fun m k hk => ?_) (fun m => ?_)
  · have b1 : (std.rsv 2 a (k : Int) 2).length ≤ 1048576 := hb.2 k hk
    have his : std.inb (i : Int) (std.ilen (stS a)) = true := by rw [std_ilen, stS_len]; exact inb_nat_t hi
    have eg : std.iget (stS a) (i : Int) = sgS a i := by rw [std_iget, Int.toNat_natCast]; rfl
    by_cases e : stA a k = sgS a i
    · have e1 : std.eq (std.rint a (k : Int) 0) (sgS a i) = true := by rw [std_eq]; exact beq_iff_eq.2 e
      have hp := sg_pos h hi
      have es : std.sub .i64 (sgS a i) 1 = sgS a i - 1 := by rw [std_sub]; exact i64_wrap (by omega) (by omega)
      have l8 := saV_len8 h hv (sgS a i - 1)
      have l8' := saV_len8 h hv (sgS a i)
      have ht : ovL (saV v a (sgS a i - 1)) (std.rsv 2 a (k : Int) 2) = saV v a (sgS a i) := (step_at h hv hi hk e).symm
      have nt : std.not true = false := rfl
      simp only [laws_FnStates_l6, std_rlen, lt_nat_t hk, inb_nat_t hk, bt, his, eg, e1, StateAt_im v (by omega) a hb, es, (Overlay_val (saV v a (sgS a i - 1)) (by omega) _ b1 _).1, ht, sameInts_rf (saV v a (sgS a i)) (by omega), nt, bf, add1 (i := k) (by omega)]
    · have e1 : std.eq (std.rint a (k : Int) 0) (sgS a i) = false := by rw [std_eq]; exact beq_eq_false_iff_ne.2 e
      simp only [laws_FnStates_l6, std_rlen, lt_nat_t hk, inb_nat_t hk, bt, his, eg, e1, bf, add1 (i := k) (by omega)]
  · simp only [laws_FnStates_l6, std_rlen, lt_nat_f (Nat.le_refl _), bf]
theorem States_l4 (a : List (List C)) (hb : bWroteS a) (h : histB a = true) (v : List Int) (hv : valsB v 8 = true) (x : List Int) (kret : Bool → R) (kx : List Int → List (List C) → List Int → List Int → R) (N : Nat) (hN : a.length < N) :
    laws_FnStates_l4 std c24 c27 (spec_Overlay std) (impl_StateAt std) c21 c22 c25 c26 (laws_sameInts std) N v a x (stS a) 0 kret kx = kx v a x (stS a) := by
  have hb1 := hb.1
  refine loop_true (F := fun m i => laws_FnStates_l4 std c24 c27 (spec_Overlay std) (impl_StateAt std) c21 c22 c25 c26 (laws_sameInts std) m v a x (stS a) i kret kx) (len := a.length) hN (fun m i hi => ?_) (fun m => ?_)
  · have hl := fun kret kx => States_l6 c24 c27 c21 c22 c25 c26 a hb h v hv x hi kret kx std.fuel (by rw [std_fuel]; omega)
    have hlt : std.lt (i : Int) (std.ilen (stS a)) = true := by rw [std_ilen, stS_len]; exact lt_nat_t hi
    simp only [laws_FnStates_l4, hlt, bt, hl, add1 (i := i) (by omega)]
  · have hlt : std.lt ((a.length : Nat) : Int) (std.ilen (stS a)) = false := by rw [std_ilen, stS_len]; exact lt_nat_f (Nat.le_refl _)
    simp only [laws_FnStates_l4, hlt, bf]
end
theorem FnStates_drawn (c22 : spec_DrawStateAt_T) (code : List Int) (k : Bool → R) (hd : code.length ≤ 1048576 → ∃ v a n, v.length ≤ 1048576 ∧ (v.length = 8 → valsB v 8 = true) ∧ bWroteS a ∧ ∀ k, c22 code k = k v a n) :
    laws_FnStates_f std (spec_HistOk std) (impl_Stamps std) (spec_Overlay std) (impl_StateAt std) (laws_big std) c22 (impl_LastWriter std) (spec_Last std) (laws_sameInts std) code k = k true := by
  unfold laws_FnStates_f
  simp only [big_val']
  by_cases hb : 1048576 < code.length
  · have e : std.lt 1048576 (std.ilen code) = true := by rw [std_lt, std_ilen]; exact decide_eq_true (by omega)
    simp only [e, bt]
  have e : std.lt 1048576 (std.ilen code) = false := by rw [std_lt, std_ilen]; exact decide_eq_false (by omega)
  obtain ⟨v, a, n, h1, h2, h3, h4⟩ := hd (by omega)
  have hb1 := h3.1
  have nt : std.not true = false := rfl
  have nf : std.not false = true := rfl
  have se : ∀ x : Int, std.eq x x = true := fun x => by simp
  have z : std.eq (std.ilen ([] : List Int)) 0 = true := rfl
  simp only [e, bf, h4, StateAt_im v h1 a h3, HistOk_sp a h3]
  cases hh : histB a
  · rw [saV_no hh]; simp only [nf, bt, z]
  by_cases h8 : v.length = 8
  case neg =>
    have : std.eq (std.ilen v) 8 = false := by rw [std_eq, std_ilen]; exact beq_eq_false_iff_ne.2 (by omega)
    rw [saV_no8 h8]; simp only [nt, bf, this, nf, bt, z]
  have hv := h2 h8
  have l8 := saV_len8 hh hv n
  have e8 : std.ilen v = 8 := by rw [std_ilen]; omega
  have e8' : std.ilen (saV v a n) = 8 := by rw [std_ilen]; omega
  have el : std.eq (std.ilen (stS a)) (std.rlen a) = true := by rw [std_ilen, std_rlen, stS_len]; exact se _
  have hst : ∀ k, impl_Stamps std a k = k (stS a) := fun k => by rw [Stamps_im a h3, hh, bt]
  generalize hF : std.fuel = F
  have hF : 4294967296 = F := hF
  simp only [nt, bf, e8, e8', se, States_l0 _ _ _ _ _ _ _ a h3 hh v hv n _ _ F (by omega), hst, States_l4 _ _ _ _ _ _ a h3 hh v hv _ _ _ F (by omega), el, bt, StateAt_im v h1 a h3, zero_at hh hv, sameInts_rf v (by omega)]
end X
