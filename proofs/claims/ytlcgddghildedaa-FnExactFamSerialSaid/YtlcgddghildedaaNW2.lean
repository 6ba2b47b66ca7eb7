/- Models of the functions, or plain laws about them; each theorem states its own conditions. -/
import Derived.Test.YtlcgddghildedaaNW1
import Derived.Test.YtlcgddghildedaaSr
set_option linter.unusedVariables false
set_option linter.unusedSimpArgs false
open Go.Proofs
namespace X
open PM Go
set_option maxHeartbeats 1000000
/-! ## Values -/
theorem valsn_iff {v : List Int} {n : Nat} : valsB v (n : Int) = true ↔ v.length = n ∧ ∀ i, i < n → 0 ≤ v.getD i 0 ∧ v.getD i 0 ≤ 65535 := by
  have hg : ∀ i : Nat, std.iget v (i : Int) = v.getD i 0 := fun i => by rw [std_iget, Int.toNat_natCast]
  constructor
  · intro h
    have hl := valsB_len h
    unfold valsB at h
    rw [Bool.and_eq_true] at h
    refine ⟨hl, fun i hi => ?_⟩
    have := allB_at h.1 (show i < v.length by omega)
    rw [hg] at this
    exact of_decide_eq_true this
  · rintro ⟨h1, h2⟩
    unfold valsB
    rw [Bool.and_eq_true, allB_iff]
    refine ⟨fun i hi => ?_, by rw [std_eq, std_ilen, h1]; exact beq_self_eq_true _⟩
    rw [hg]
    exact decide_eq_true (h2 i (by omega))
theorem vals_set {v : List Int} {n : Nat} (h : valsB v (n : Int) = true) (i : Nat) {x : Int} (hx : 0 ≤ x ∧ x ≤ 65535) : valsB (v.set i x) (n : Int) = true := by
  obtain ⟨h1, h2⟩ := valsn_iff.1 h
  refine valsn_iff.2 ⟨by rw [List.length_set, h1], fun j hj => ?_⟩
  by_cases hij : i = j
  · subst hij
    rw [getD_set_self (by omega)]; exact hx
  · have : (v.set i x).getD j 0 = v.getD j 0 := by
      rw [List.getD_eq_getElem?_getD, List.getElem?_set_ne hij, ← List.getD_eq_getElem?_getD]
    rw [this]; exact h2 j hj
theorem vals_get {v : List Int} {n : Nat} (h : valsB v (n : Int) = true) {i : Nat} (hi : i < n) : 0 ≤ v.getD i 0 ∧ v.getD i 0 ≤ 65535 := (valsn_iff.1 h).2 i hi
theorem nat_of {x : Int} (h : 0 ≤ x) : ∃ n : Nat, x = (n : Int) := ⟨x.toNat, (Int.toNat_of_nonneg h).symm⟩
theorem inA {x : Nat} {l : List Int} {n : Nat} (hl : l.length = n) (hx : x < n) : std.inb (x : Int) (std.ilen l) = true := by rw [std_ilen]; exact inb_nat_t (by omega)
/-! ## Calc -/
theorem Calc_val {K a b c : Int} {Rg : List Int} (hK : 1 ≤ K ∧ K ≤ 4) (ho : opB K a b c = true) (hv : valsB Rg 4 = true) : ∃ R', valsB R' 4 = true ∧ ∀ k : List Int → Bool → R, spec_Calc std K a b c Rg k = k R' true ∧ impl_Calc std K a b c Rg k = k R' true := by
  have hl : Rg.length = 4 := valsB_len (n := 4) hv
  have rm : std.room (std.ilen []) (std.ilen Rg) = true := by rw [std_room]; exact decide_eq_true (by simp; omega)
  have e4 : std.lt 4 K = false := by rw [std_lt]; exact decide_eq_false (by omega)
  have nz : std.nz 65536 = true := rfl
  have ap : std.iapp [] Rg = Rg := rfl
  have ls : ∀ x y, std.ilen (std.iset Rg x y) = std.ilen Rg := fun x y => by rw [std_ilen, std_iset, List.length_set, std_ilen]
  by_cases h1 : K = 1
  · subst h1
    obtain ⟨ra, vb⟩ := op1 _ _ _ ho
    obtain ⟨x, rfl⟩ := nat_of ra.1
    have hx : x < 4 := by have := ra.2; omega
    refine ⟨std.iset Rg (x : Int) b, vals_set (n := 4) hv _ vb, fun k => ?_⟩
    simp only [spec_Calc, spec_Calc_f, impl_Calc, impl_Calc_f, rm, bt, OpOk_val, OpOk_val', ho, not_true', bf, l4Regs_val Rg (by omega), areValues_val Rg (by omega), copyInts_val Rg (by omega), hv, e4, show std.eq 1 1 = true from rfl, ap, inA hl hx, and_self]
  obtain ⟨ra, rb, rc⟩ := op234 _ _ _ _ (by omega) ho
  obtain ⟨x, rfl⟩ := nat_of ra.1
  obtain ⟨y, rfl⟩ := nat_of rb.1
  obtain ⟨z, rfl⟩ := nat_of rc.1
  have hx : x < 4 := by have := ra.2; omega
  have hy : y < 4 := by have := rb.2; omega
  have hz : z < 4 := by have := rc.2; omega
  have vy := vals_get (n := 4) hv hy
  have vz := vals_get (n := 4) hv hz
  have gy : std.iget Rg (y : Int) = Rg.getD y 0 := rfl
  have gz : std.iget Rg (z : Int) = Rg.getD z 0 := rfl
  have e1 := eqn h1
  by_cases h2 : K = 2
  · subst h2
    refine ⟨std.iset Rg (x : Int) (std.rem .i64 (std.add .i64 (std.iget Rg (y : Int)) (std.iget Rg (z : Int))) 65536), vals_set (n := 4) hv _ ?_, fun k => ?_⟩
    · rw [gy, gz, addw (by omega) (by omega), std_rem, Int.tmod_eq_emod_of_nonneg (by omega)]
      omega
    · simp only [spec_Calc, spec_Calc_f, impl_Calc, impl_Calc_f, rm, bt, OpOk_val, OpOk_val', ho, not_true', bf, l4Regs_val Rg (by omega), areValues_val Rg (by omega), copyInts_val Rg (by omega), hv, e4, e1, show std.eq 2 2 = true from rfl, ap, inA hl hx, inA hl hy, inA hl hz, nz, and_self]
  have e2 := eqn h2
  by_cases h3 : K = 3
  · subst h3
    refine ⟨std.iset Rg (x : Int) (std.rem .i64 (std.add .i64 (std.sub .i64 (std.iget Rg (y : Int)) (std.iget Rg (z : Int))) 65536) 65536), vals_set (n := 4) hv _ ?_, fun k => ?_⟩
    · rw [gy, gz, subw (by omega) (by omega), addw (by omega) (by omega), std_rem, Int.tmod_eq_emod_of_nonneg (by omega)]
      omega
    · simp only [spec_Calc, spec_Calc_f, impl_Calc, impl_Calc_f, rm, bt, OpOk_val, OpOk_val', ho, not_true', bf, l4Regs_val Rg (by omega), areValues_val Rg (by omega), copyInts_val Rg (by omega), hv, e4, e1, e2, show std.eq 3 3 = true from rfl, ap, inA hl hx, inA hl hy, inA hl hz, nz, and_self]
  have e3 := eqn h3
  refine ⟨bif std.lt (std.iget Rg (y : Int)) (std.iget Rg (z : Int)) then std.iset (std.iset Rg (x : Int) 0) (x : Int) 1 else std.iset Rg (x : Int) 0, ?_, fun k => ?_⟩
  · cases std.lt (std.iget Rg (y : Int)) (std.iget Rg (z : Int))
    · exact vals_set (n := 4) hv _ (by omega)
    · exact vals_set (n := 4) (vals_set (n := 4) hv _ (by omega)) _ (by omega)
  · simp only [spec_Calc, spec_Calc_f, impl_Calc, impl_Calc_f, rm, bt, OpOk_val, OpOk_val', ho, not_true', bf, l4Regs_val Rg (by omega), areValues_val Rg (by omega), copyInts_val Rg (by omega), hv, e4, e1, e2, e3, ap, ls, inA hl hx, inA hl hy, inA hl hz]
    cases std.lt (std.iget Rg (y : Int)) (std.iget Rg (z : Int)) <;> exact ⟨rfl, rfl⟩
/-! ## The marks -/
def mkRow (map : List Int) (cnt : Int) (k : Nat × List Int × List Int) : List C := [.i (k.1 : Int), .s (std.ofi k.2.1), .s (std.ofi k.2.2), .s (std.ofi map), .i cnt]
def mkT (map : List Int) (cnt : Int) (st : St) : List (List C) := (st.map (mkRow map cnt)).reverse
theorem mkT_len (map : List Int) (cnt : Int) (st : St) : (mkT map cnt st).length = st.length := by simp [mkT]
theorem mkT_push (map : List Int) (cnt : Int) (k : Nat × List Int × List Int) (st : St) : mkT map cnt (k :: st) = mkT map cnt st ++ [mkRow map cnt k] := by simp [mkT]
theorem mkT_top (map : List Int) (cnt : Int) (k : Nat × List Int × List Int) (st : St) (j : Nat) : cOf (mkT map cnt (k :: st)) st.length j = cAt (mkRow map cnt k) j := by
  unfold cOf
  rw [mkT_push, List.getD_eq_getElem?_getD, List.getElem?_append_right (by rw [mkT_len]; exact Nat.le_refl _), mkT_len, Nat.sub_self]
  rfl
theorem mkT_pop (map : List Int) (cnt : Int) (k : Nat × List Int × List Int) (st : St) : std.rsub (mkT map cnt (k :: st)) 0 (st.length : Int) = mkT map cnt st := by
  rw [std_rsub, mkT_push, Int.toNat_natCast]
  show List.take (st.length - 0) (mkT map cnt st ++ [mkRow map cnt k]) = _
  rw [Nat.sub_zero, ← mkT_len map cnt st, List.take_left]
theorem mkT_facts (map : List Int) (cnt : Int) (a : Nat) (r c : List Int) (st : St) (hs : st.length ≤ 24) :
    std.sub .i64 (std.rlen (mkT map cnt ((a, r, c) :: st))) 1 = (st.length : Int) ∧ std.inb (st.length : Int) (std.rlen (mkT map cnt ((a, r, c) :: st))) = true ∧ std.subb 0 (st.length : Int) (std.rlen (mkT map cnt ((a, r, c) :: st))) = true ∧
    std.rint (mkT map cnt ((a, r, c) :: st)) (st.length : Int) 0 = (a : Int) ∧ std.rsi (mkT map cnt ((a, r, c) :: st)) (st.length : Int) 1 = r ∧ std.rsi (mkT map cnt ((a, r, c) :: st)) (st.length : Int) 2 = c ∧ std.rsi (mkT map cnt ((a, r, c) :: st)) (st.length : Int) 3 = map ∧
    std.rint (mkT map cnt ((a, r, c) :: st)) (st.length : Int) 4 = cnt ∧ std.eq (std.rlen (mkT map cnt ((a, r, c) :: st))) 0 = false := by
  have hl : std.rlen (mkT map cnt ((a, r, c) :: st)) = ((st.length + 1 : Nat) : Int) := by rw [std_rlen, mkT_len]; rfl
  rw [hl]
  refine ⟨by rw [subw (by omega) (by omega)]; omega, inb_nat_t (by omega), decide_eq_true (by omega), ?_, ?_, ?_, ?_, ?_, eqn (by omega)⟩
  · rw [std_rint, Int.toNat_natCast, mkT_top]; rfl
  · rw [std_rsi, Int.toNat_natCast, mkT_top]; exact rsi_cell r
  · rw [std_rsi, Int.toNat_natCast, mkT_top]; exact rsi_cell c
  · rw [std_rsi, Int.toNat_natCast, mkT_top]; exact rsi_cell map
  · rw [std_rint, Int.toNat_natCast, mkT_top]; rfl
/-! ## The stack and the depth -/
def Stk (code : List (List Int)) : Nat → St → Prop
  | i, [] => dep code 0 i = 0
  | i, (a, _) :: st => kd code a = 8 ∧ a < i ∧ (∀ j, a < j → j ≤ i → dep code 0 a < dep code 0 j) ∧ dep code 0 i = dep code 0 a + 1 ∧ Stk code a st
theorem Stk.go {code : List (List Int)} {i i' : Nat} {st : St} (h : Stk code i st) (hi : i ≤ i') (hd : dep code 0 i' = dep code 0 i) (hj : ∀ j, i < j → j ≤ i' → dep code 0 i ≤ dep code 0 j) : Stk code i' st := by
  cases st with
  | nil => exact hd.trans h
  | cons x st =>
    obtain ⟨a, x⟩ := x
    obtain ⟨h1, h2, h3, h4, h5⟩ := h
    refine ⟨h1, by omega, fun j j1 j2 => ?_, by omega, h5⟩
    by_cases hc : j ≤ i
    · exact h3 j j1 hc
    · have := hj j (by omega) j2
      have := h3 i h2 (Nat.le_refl _)
      omega
theorem Stk.len {code : List (List Int)} : ∀ {st : St} {i : Nat}, Stk code i st → (st.length : Int) = dep code 0 i
  | [], _, h => h.symm
  | (a, x) :: st, i, h => by
    obtain ⟨h1, h2, h3, h4, h5⟩ := h
    have := h5.len
    rw [h4, ← this]
    rfl
theorem Stk.lt {code : List (List Int)} {i : Nat} {st : St} (h : Stk code i st) : st.length ≤ i := by
  have := h.len
  have := (dep_r code 0 i).2
  omega
end X
