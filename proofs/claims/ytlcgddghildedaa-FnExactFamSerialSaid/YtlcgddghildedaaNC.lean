/- Models of the functions, or plain laws about them; each theorem states its own conditions. -/
import Derived.Test.YtlcgddghildedaaNV
set_option linter.unusedVariables false
set_option linter.unusedSimpArgs false
open Go.Proofs
namespace X
open PM Go

/-! ## Code -/
theorem det_in (x a b : Int) : Det (spec_l1In std x a b) := det_bif (det_k _) (det_k _)
theorem det_OpOk (a b c d : Int) : Det (spec_OpOk std a b c d) := by
  have hr : ∀ x, Det (spec_l4Reg std x) := fun x => det_in x _ _
  have hc : ∀ x, Det (spec_l3Cell std x) := fun x => det_in x _ _
  have hv : ∀ x, Det (spec_l3Val std x) := fun x => det_in x _ _
  show Det (fun k => spec_OpOk std a b c d k)
  unfold spec_OpOk spec_OpOk_f
  repeat' first
    | exact det_k _
    | exact hr _
    | exact hc _
    | exact hv _
    | exact det_in _ _ _
    | refine det_bif ?_ ?_
    | refine det_bind (hr _) fun _ => ?_
    | refine det_bind (hc _) fun _ => ?_
    | refine det_bind (hv _) fun _ => ?_
    | refine det_bind (det_in _ _ _) fun _ => ?_
theorem det_Touches (a b c d : Int) : Det (spec_Touches std a b c d) := by
  show Det (fun k => spec_Touches std a b c d k)
  unfold spec_Touches spec_Touches_f
  repeat' first
    | exact det_k _
    | refine det_bif ?_ ?_
    | refine det_bind (det_OpOk _ _ _ _) fun _ => ?_
noncomputable def opB (a b c d : Int) : Bool := (det_OpOk a b c d).choose
theorem OpOk_val (a b c d : Int) (k : Bool → R) : spec_OpOk std a b c d k = k (opB a b c d) := (det_OpOk a b c d).choose_spec k
theorem OpOk_val' (a b c d : Int) (k : Bool → R) : impl_OpOk std a b c d k = k (opB a b c d) := (det_OpOk a b c d).choose_spec k
noncomputable def touch (a b c d : Int) : Int := (det_Touches a b c d).choose
theorem Touches_val (a b c d : Int) (k : Int → R) : spec_Touches std a b c d k = k (touch a b c d) := (det_Touches a b c d).choose_spec k
theorem Touches_val' (a b c d : Int) (k : Int → R) : impl_Touches std a b c d k = k (touch a b c d) := (det_Touches a b c d).choose_spec k
theorem op7 (a b c : Int) (h : opB 7 a b c = true) : 1 ≤ b ∧ b ≤ 20 := by
  have h1 := OpOk_val 7 a b c (fun r => some (.bool r))
  have e : spec_OpOk std 7 a b c (fun r => some (.bool r)) = bif inB a 0 3 then (bif inB b 1 20 then some (.bool (std.eq c 0)) else some (.bool false)) else some (.bool false) := by
    have hr : ∀ (x : Int) (k : Bool → R), spec_l4Reg std x k = k (inB x 0 3) := fun x k => in_val x 0 3 k
    simp only [spec_OpOk, spec_OpOk_f, show std.eq 7 1 = false from rfl, show std.eq 7 2 = false from rfl, show std.eq 7 3 = false from rfl, show std.eq 7 4 = false from rfl, show std.eq 7 5 = false from rfl, show std.eq 7 6 = false from rfl, show std.eq 7 7 = true from rfl, bt, bf, hr, in_val]
  rw [h] at h1
  rw [e] at h1
  cases h2 : inB a 0 3
  · rw [h2] at h1; cases h1
  · cases h3 : inB b 1 20
    · rw [h2, h3] at h1; cases h1
    · exact of_decide_eq_true h3
def kd (l : List (List Int)) (i : Nat) : Int := std.vget l (i : Int) 0
def opn (x : Int) : Int := bif std.eq x 8 then 1 else bif std.eq x 9 then -1 else 0
theorem opn_r (x : Int) : -1 ≤ opn x ∧ opn x ≤ 1 := by
  unfold opn
  cases std.eq x 8 <;> cases std.eq x 9 <;> simp
def dep (l : List (List Int)) (a : Nat) : Nat → Int
  | 0 => 0
  | j + 1 => dep l a j + opn (kd l (a + j))
theorem dep_r (l : List (List Int)) (a : Nat) : ∀ j : Nat, -(j : Int) ≤ dep l a j ∧ dep l a j ≤ j
  | 0 => by unfold dep; omega
  | j + 1 => by
    have h1 := dep_r l a j
    have h2 := opn_r (kd l (a + j))
    unfold dep
    omega
theorem addw {x y : Int} (h1 : -4194304 ≤ x + y) (h2 : x + y ≤ 4194304) : std.add .i64 x y = x + y := by rw [std_add]; exact i64_wrap (by omega) (by omega)
theorem subw {x y : Int} (h1 : -4194304 ≤ x - y) (h2 : x - y ≤ 4194304) : std.sub .i64 x y = x - y := by rw [std_sub]; exact i64_wrap (by omega) (by omega)
theorem opens_val (a b c d : Int) (k : Int → R) : impl_opens std a b c d k = k (opn a) := by
  simp only [impl_opens, impl_opens_f, opn]
  cases std.eq a 8 <;> cases std.eq a 9 <;> rfl
def balB (l : List (List Int)) (a m : Nat) : Bool := allB (fun j => !(std.lt (dep l a (j + 1)) 0)) m && std.eq (dep l a m) 0
theorem isBal_val (l : List (List Int)) (hb : l.length ≤ 1048576) (k : Bool → R) : impl_isBalanced std l k = k (balB l 0 l.length) := by
  unfold impl_isBalanced impl_isBalanced_f balB
  generalize hF : std.fuel = N
  have hN : 4294967296 = N := hF
  rw [std_vlen]
  have lp : impl_isBalanced_l0 std (impl_opens std) N 0 l (l.length : Int) 0 (fun t => k t) (fun n79 => k (std.eq n79 0)) = bif allB (fun j => !(std.lt (dep l 0 (j + 1)) 0)) l.length then k (std.eq (dep l 0 l.length) 0) else k false := by
    refine loop_all0 (F := fun n z => impl_isBalanced_l0 std (impl_opens std) n (dep l 0 z.toNat) l (l.length : Int) z (fun t => k t) (fun n79 => k (std.eq n79 0))) (by omega) (fun n i hi => ?_) (fun n => ?_)
    · have r := dep_r l 0 i
      have r2 := opn_r (kd l i)
      have e : std.add .i64 (dep l 0 i) (opn (std.vget l (i : Int) 0)) = dep l 0 (i + 1) := by
        show std.add .i64 (dep l 0 i) (opn (kd l i)) = dep l 0 i + opn (kd l (0 + i))
        rw [Nat.zero_add]
        exact addw (by omega) (by omega)
      simp only [impl_isBalanced_l0, std_vlen, lt_nat_t hi, inb_nat_t hi, bt, opens_val, Int.toNat_natCast, e, add1 (i := i) (by omega)]
      cases std.lt (dep l 0 (i + 1)) 0 <;> rfl
    · simp only [impl_isBalanced_l0, lt_nat_f (Nat.le_refl _), bf, Int.toNat_natCast]
  rw [lp]
  cases allB (fun j => !(std.lt (dep l 0 (j + 1)) 0)) l.length <;> rfl
theorem DepthAt_val (l : List (List Int)) (hb : l.length ≤ 1048576) (i : Nat) (hi : i ≤ l.length) (k : Int → R) : impl_DepthAt std l (i : Int) k = k (dep l 0 i) := by
  unfold impl_DepthAt impl_DepthAt_f
  generalize hF : std.fuel = N
  have hN : 4294967296 = N := hF
  rw [std_vlen]
  have lp := loop_true (F := fun n z => impl_DepthAt_l0 std (impl_opens std) n (i : Int) (dep l 0 (min z.toNat i)) l (l.length : Int) z (fun n => k n)) (y := k (dep l 0 i)) (len := l.length) (N := N) (by omega)
    (fun n j hj => by
      have r := dep_r l 0 j
      have r2 := opn_r (kd l j)
      by_cases h : j < i
      · have e : std.add .i64 (dep l 0 j) (opn (std.vget l (j : Int) 0)) = dep l 0 (j + 1) := by
          show std.add .i64 (dep l 0 j) (opn (kd l j)) = dep l 0 j + opn (kd l (0 + j))
          rw [Nat.zero_add]
          exact addw (by omega) (by omega)
        have m1 : min j i = j := by omega
        have m2 : min (j + 1) i = j + 1 := by omega
        simp only [impl_DepthAt_l0, std_vlen, lt_nat_t hj, inb_nat_t hj, lt_nat_t h, bt, opens_val, Int.toNat_natCast, m1, m2, e, add1 (i := j) (by omega)]
      · have m1 : min j i = i := by omega
        have m2 : min (j + 1) i = i := by omega
        simp only [impl_DepthAt_l0, std_vlen, lt_nat_t hj, inb_nat_t hj, lt_nat_f (show i ≤ j by omega), bt, bf, Int.toNat_natCast, m1, m2, add1 (i := j) (by omega)])
    (fun n => by
      have m1 : min l.length i = i := by omega
      simp only [impl_DepthAt_l0, lt_nat_f (Nat.le_refl _), bf, Int.toNat_natCast, m1])
  have z : min (0 : Int).toNat i = 0 := by simp
  simp only [z] at lp
  exact lp
theorem Skip_val (l : List (List Int)) (hb : l.length ≤ 1048576) (i : Nat) (hi : i < l.length) (h1 : 1 ≤ std.vget l (i : Int) 2) (h2 : std.vget l (i : Int) 2 ≤ 20) (k : Bool → R) :
    spec_l5Skip std l (i : Int) k = k (!(std.lt (std.vlen l) (std.add .i64 (std.add .i64 (i : Int) 1) (std.vget l (i : Int) 2))) && balB l (i + 1) (std.vget l (i : Int) 2).toNat) := by
  unfold spec_l5Skip spec_l5Skip_f balB
  generalize hF : std.fuel = N
  have hN : 4294967296 = N := hF
  obtain ⟨m, hm⟩ : ∃ m : Nat, std.vget l (i : Int) 2 = (m : Int) := ⟨(std.vget l (i : Int) 2).toNat, (Int.toNat_of_nonneg (by omega)).symm⟩
  have ea : std.add .i64 ((i + 1 : Nat) : Int) (m : Int) = ((i + 1 + m : Nat) : Int) := by rw [addw (by omega) (by omega)]; omega
  simp only [std_vlen, inb_nat_t hi, bt, add1 (i := i) (by omega), hm, ea, Int.toNat_natCast]
  cases hlt : std.lt (l.length : Int) ((i + 1 + m : Nat) : Int)
  · have hle : i + 1 + m ≤ l.length := by
      rw [std_lt] at hlt
      have := of_decide_eq_false hlt
      omega
    have lp := loop_all0 (p := fun j => !(std.lt (dep l (i + 1) (j + 1)) 0)) (yes := k (std.eq (dep l (i + 1) m) 0)) (no := k false) (F := fun n z => spec_l5Skip_l0 std n l ((i + 1 + m : Nat) : Int) (dep l (i + 1) z.toNat) (((i + 1 : Nat) : Int) + z) (fun t => k t) (fun d => k (std.eq d 0))) (len := m) (N := N) (by omega)
      (fun n j hj => by
        have r := dep_r l (i + 1) j
        have hj1 : (((i + 1 : Nat) : Int) + (j : Int)) = ((i + 1 + j : Nat) : Int) := by omega
        have hj2 : (((i + 1 : Nat) : Int) + ((j + 1 : Nat) : Int)) = ((i + 1 + j + 1 : Nat) : Int) := by omega
        have l1 : std.lt ((i + 1 + j : Nat) : Int) ((i + 1 + m : Nat) : Int) = true := lt_nat_t (by omega)
        have l2 : std.inb ((i + 1 + j : Nat) : Int) (l.length : Int) = true := inb_nat_t (by omega)
        have dd : dep l (i + 1) (j + 1) = dep l (i + 1) j + opn (std.vget l ((i + 1 + j : Nat) : Int) 0) := rfl
        have ad : ∀ c : Int, -1 ≤ c → c ≤ 1 → std.add .i64 (dep l (i + 1) j) c = dep l (i + 1) j + c := fun c _ _ => addw (by omega) (by omega)
        have sb : std.sub .i64 (dep l (i + 1) j) 1 = dep l (i + 1) j + -1 := by rw [subw (by omega) (by omega)]; omega
        simp only [hj1, hj2, spec_l5Skip_l0, std_vlen, l1, l2, bt, Int.toNat_natCast, add1 (i := i + 1 + j) (by omega), dd]
        generalize std.vget l ((i + 1 + j : Nat) : Int) 0 = K
        unfold opn
        cases h8 : std.eq K 8
        · cases h9 : std.eq K 9
          · simp only [bf, Int.add_zero]
            cases std.lt (dep l (i + 1) j) 0 <;> rfl
          · simp only [bf, bt, sb]
            cases std.lt (dep l (i + 1) j + -1) 0 <;> rfl
        · have h9 : std.eq K 9 = false := by
            have : K = 8 := eq_of_beq h8
            subst this; rfl
          simp only [h9, bt, bf, ad 1 (by omega) (by omega)]
          cases std.lt (dep l (i + 1) j + 1) 0 <;> rfl)
      (fun n => by
        have hj1 : (((i + 1 : Nat) : Int) + (m : Int)) = ((i + 1 + m : Nat) : Int) := by omega
        simp only [hj1, spec_l5Skip_l0, lt_nat_f (Nat.le_refl _), bf, Int.toNat_natCast])
    have z : ((i + 1 : Nat) : Int) + 0 = ((i + 1 : Nat) : Int) := Int.add_zero _
    simp only [z] at lp
    simp only [bf]
    refine Eq.trans ?_ (lp.trans ?_)
    · rfl
    · cases allB (fun j => !(std.lt (dep l (i + 1) (j + 1)) 0)) m <;> rfl
  · rfl
end X
