/- Models of the functions, or plain laws about them; each theorem states its own conditions. -/
import Derived.Test.YtnkgcegeinemjaaQ6
import Derived.Test.YtnkgcegeinemjaaQ2H
import Derived.Test.YtnkgcegeinemjaaQD2
set_option linter.unusedVariables false
set_option linter.unusedSimpArgs false
open Go.Proofs
namespace X
open PM Go

/-! ## HoldFree -/
theorem foldF_rows {S : Type} (g : List Int → S → S) : ∀ (suf pre : List (List Int)) (s : S), foldF (fun i s => g ((pre ++ suf).getD i []) s) suf.length pre.length s = suf.foldl (fun s r => g r s) s
  | [], pre, s => rfl
  | r :: suf, pre, s => by
    have e : (pre ++ r :: suf).getD pre.length [] = r := by simp [List.getD_eq_getElem?_getD]
    have h := foldF_rows g suf (pre ++ [r]) (g r s)
    rw [List.append_assoc, List.singleton_append, List.length_append, List.length_singleton] at h
    rw [List.length_cons, List.foldl_cons, ← h]
    show foldF _ suf.length (pre.length + 1) (g ((pre ++ r :: suf).getD pre.length []) s) = _
    rw [e]
theorem foldB_rows {S : Type} (g : List Int → S → S) (l : List (List Int)) (s : S) : foldB (fun i s => g (l.getD i []) s) l.length s = l.foldl (fun s r => g r s) s := foldF_rows g l [] s
theorem foldl_filter (p : List Int → Bool) : ∀ (l o : List (List Int)), l.foldl (fun s r => bif p r then s ++ [r] else s) o = o ++ l.filter p
  | [], o => by simp
  | r :: l, o => by
    rw [List.foldl_cons, foldl_filter p l, List.filter_cons]
    cases p r <;> simp
def whoNe (who : Int) (r : List Int) : Bool := !(r.getD 0 0 == who)
def holdFree (l : List (List Int)) (who : Int) : List (List Int) := bif holdsOk l then l.filter (whoNe who) else l
theorem holdFree_length (l : List (List Int)) (who : Int) : (holdFree l who).length ≤ l.length := by
  unfold holdFree
  cases holdsOk l
  · exact Nat.le_refl _
  · exact List.length_filter_le _ _
theorem holdFree_mem {l : List (List Int)} {who : Int} {r : List Int} (h : r ∈ holdFree l who) : r ∈ l := by
  unfold holdFree at h
  cases hh : holdsOk l
  · rw [hh] at h; exact h
  · rw [hh] at h; exact (List.mem_filter.1 h).1
theorem copyHolds_val (l : List (List Int)) (hb : l.length ≤ 2147483648) (k : List (List Int) → R) : impl_copyHolds std l k = k l := by
  unfold impl_copyHolds impl_copyHolds_f
  have : std.room (std.vlen []) (std.vlen l) = true := by rw [std_room, std_vlen, std_vlen]; exact decide_eq_true (by simp; omega)
  rw [this]; rfl
theorem HoldFree_go (c37 : spec_HoldsOk_T) (l : List (List Int)) (hb : l.length ≤ 1048576) (hw : ∀ r ∈ l, r.length = 3) (who : Int) (free : Bool) (kx : List (List Int) → R) (N : Nat) (hN : l.length < N) :
    spec_HoldFree_l0 std c37 N l who free 0 [] kx = kx (l.filter fun r => bif free then whoNe who r else true) := by
  have key : spec_HoldFree_l0 std c37 N l who free 0 [] kx = kx (foldB (fun i o => (fun r o => bif (bif free then whoNe who r else true) then o ++ [r] else o) (l.getD i []) o) l.length []) := by
    refine loop_fold0 (F := fun n i o => spec_HoldFree_l0 std c37 n l who free i o kx) (f := fun i o => (fun r o => bif (bif free then whoNe who r else true) then o ++ [r] else o) (l.getD i []) o) (len := l.length) (fun i o => o.length ≤ i) hN (Nat.le_refl _) (fun n i o hi hv => ?_) (fun i o hi hv => ?_) (fun n o hv => ?_)
    · have hr := row3 (hw _ (getD_mem (d := []) hi))
      have hv : o.length ≤ i := hv
      have er : std.room (std.vlen o) (std.vlen [l.getD i []]) = true := by rw [std_room, std_vlen, std_vlen]; exact decide_eq_true (by simp; omega)
      have ev : ∀ j, std.vget l (i : Int) j = (l.getD i []).getD j 0 := fun j => rfl
      simp only [spec_HoldFree_l0, std_vlen, lt_nat_t hi, inb_nat_t hi, bt, ev, hr, std_not, std_eq, add1 (i := i) (by omega), std_vapp, whoNe]
      simp only [std_vlen] at er
      rw [er]
      cases free <;> cases ((l.getD i []).getD 0 0 == who) <;> simp only [bt, bf, Bool.not_true, Bool.not_false]
    · have hv : o.length ≤ i := hv
      show (bif (bif free then whoNe who (l.getD i []) else true) then o ++ [l.getD i []] else o).length ≤ i + 1
      cases (bif free then whoNe who (l.getD i []) else true)
      · exact Nat.le_succ_of_le hv
      · rw [bt, List.length_append, List.length_singleton]; exact Nat.succ_le_succ hv
    · simp only [spec_HoldFree_l0, std_vlen, lt_nat_f (Nat.le_refl _), bf]
  rw [key, foldB_rows (fun r o => bif (bif free then whoNe who r else true) then o ++ [r] else o), foldl_filter, List.nil_append]
theorem HoldFree_val (l : List (List Int)) (hb : l.length ≤ 1048576) (hw : ∀ r ∈ l, r.length = 3) (who : Int) (k : List (List Int) → R) : spec_HoldFree std l who k = k (holdFree l who) ∧ impl_HoldFree std l who k = k (holdFree l who) := by
  unfold spec_HoldFree spec_HoldFree_f impl_HoldFree impl_HoldFree_f holdFree
  generalize hN : std.fuel = N
  have hN : 4294967296 = N := hN
  simp only [HoldsOk_val l (show l.length ≤ 2147483648 by omega), HoldsOk_eq l (show l.length ≤ 2147483648 by omega), copyHolds_val l (show l.length ≤ 2147483648 by omega), HoldFree_go _ l hb hw who _ _ N (by omega), bif_not]
  cases holdsOk l
  · refine ⟨?_, rfl⟩
    simp only [cond_false]
    rw [List.filter_eq_self.2 fun _ _ => rfl]
  · refine ⟨rfl, ?_⟩
    unfold slices_DeleteFunc___impl_Hold_impl_Hold_
    simp only [cond_true]
    rw [if_pos ⟨hw, by omega⟩]
    rfl
theorem held3 (m : Nat) (hb : m ≤ 2147483648) (kx : Int → R) : laws_heldHoldS std (vups 3 1 m) 1 kx = kx (1 + 3 * m) := heldHoldS_k m 1 hb (by omega) (by omega) kx
theorem HoldFree_true (l : List (List Int)) (who : Int) (b : FitArr cx (.vecs 73 3 l)) (b1 : IntKind.i64.min ≤ who ∧ who ≤ IntKind.i64.max) (k : Bool → R) : laws_FnExactHoldFree std l who k = k true := by
  unfold laws_FnExactHoldFree laws_FnExactHoldFree_f
  rw [szHoldS_eq l 1048576 (by omega) (by omega) b.1]
  by_cases hl : (1048576 : Int) - l.length < 0
  · simp [hl]
  · have h : l.length ≤ 2147483648 := by omega
    have h20 : l.length ≤ 1048576 := by omega
    have hw : ∀ r ∈ l, r.length = 3 := fun r hr => (b.2 r hr).1
    have hr : (holdFree l who).length ≤ 2147483648 := Nat.le_trans (holdFree_length _ _) h
    have hwr : ∀ r ∈ holdFree l who, r.length = 3 := fun r hr => hw r (holdFree_mem hr)
    have e0 : std.lt (1048576 - (l.length : Int)) 0 = false := by rw [std_lt]; exact decide_eq_false hl
    simp only [hl, if_false, e0, cond_false, toHoldS_eq l h hw, (HoldFree_val l h20 hw _ _).1, (HoldFree_val l h20 hw _ _).2, eqHoldS1 l h, eqHoldS1 _ hr, markHold1 l h hw, markHold1 _ hr hwr, pos3, held3 _ hr, eq_self, not_true']
end X
