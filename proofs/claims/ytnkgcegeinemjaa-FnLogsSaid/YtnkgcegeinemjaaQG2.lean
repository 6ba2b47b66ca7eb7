/- Models of the functions, or plain laws about them; each theorem states its own conditions. -/
import Derived.Test.YtnkgcegeinemjaaQG
set_option linter.unusedVariables false
set_option linter.unusedSimpArgs false
open Go.Proofs
namespace X
open PM Go

/-! ## Overlay, Cut, and the law on logs -/
def valsB (l : List Int) (n : Int) : Bool := allB (fun i => valB (nth0 l i)) l.length && ((l.length : Int) == n)
theorem areValues_val (l : List Int) (hb : l.length ≤ 2147483648) (n : Int) (k : Bool → R) : impl_areValues std l n k = k (valsB l n) := by
  unfold impl_areValues impl_areValues_f valsB
  generalize hN : std.fuel = N
  have hN : 4294967296 = N := hN
  have lp : impl_areValues_l0 std (impl_isValue std) N l n l (std.ilen l) 0 (fun t => k t) (fun l811 n912 => k (std.eq (std.ilen l811) n912)) = bif allB (fun i => valB (nth0 l i)) l.length then k ((l.length : Int) == n) else k false := by
    rw [std_ilen]
    refine loop_all0 (F := fun m i => impl_areValues_l0 std (impl_isValue std) m l n l (l.length : Int) i (fun t => k t) (fun l811 n912 => k (std.eq (std.ilen l811) n912))) (by omega) (fun m i hi => ?_) (fun m => ?_)
    · simp only [impl_areValues_l0, std_ilen, lt_nat_t hi, inb_nat_t hi, bt, iget_nat, val_val', bif_not, add1 (i := i) (by omega)]
    · simp only [impl_areValues_l0, std_ilen, lt_nat_f (Nat.le_refl _), bf, std_eq]
  rw [lp]
  cases allB (fun i => valB (nth0 l i)) l.length <;> rfl
theorem valsB_of {l : List Int} (h : ∀ i, i < l.length → 0 ≤ l.getD i 0 ∧ l.getD i 0 ≤ 65535) {n : Int} (hn : (l.length : Int) = n) : valsB l n = true := by
  unfold valsB
  rw [Bool.and_eq_true]
  exact ⟨allB_iff.2 fun j hj => decide_eq_true (h j hj), by rw [hn]; exact beq_self_eq_true n⟩
def ovV (v : List Int) (l : List (List Int)) : List Int := bif valsB v 8 && rowsOk l then ovl v l else []
theorem Overlay_val (v : List Int) (hv : v.length ≤ 2147483648) (l : List (List Int)) (hb : l.length ≤ 2147483648) (k : List Int → R) : impl_Overlay std v l k = k (ovV v l) := by
  unfold impl_Overlay impl_Overlay_f ovV
  generalize hN : std.fuel = N
  have hN : 4294967296 = N := hN
  have cp : ∀ kk : List Int → R, impl_copyInts std v kk = kk v := fun kk => by
    unfold impl_copyInts impl_copyInts_f
    rw [show std.room (std.ilen []) (std.ilen v) = true from room_s (a := 0) (b := v.length) (by omega)]
    exact bt _ _
  simp only [areValues_val v hv, (RowsOk_val l hb _).2, bif_not, cp, std_vlen]
  cases h1 : valsB v 8
  · rfl
  · cases h2 : rowsOk l
    · rfl
    · have h8 : v.length = 8 := by
        unfold valsB at h1
        rw [Bool.and_eq_true] at h1
        have := of_decide_eq_true (p := (v.length : Int) = 8) (by simpa using h1.2)
        omega
      have lp : impl_Overlay_l0 std (impl_RowsOk std) (impl_copyInts std) (impl_areValues std) N l (l.length : Int) 0 v (fun o => k o) = (fun o => k o) (foldB (fun i o => ov o (l.getD i [])) l.length v) := by
        refine loop_fold0 (F := fun n i o => impl_Overlay_l0 std (impl_RowsOk std) (impl_copyInts std) (impl_areValues std) n l (l.length : Int) i o (fun o => k o)) (kx := fun o => k o) (f := fun i o => ov o (l.getD i [])) (len := l.length) (fun _ o => o.length = 8) (by omega) h8 (fun n i o hi ho => ?_) (fun i o hi ho => by unfold ov; rw [List.length_set]; exact ho) (fun n o ho => ?_)
        · have hc := ((rowsOk_spec h2).2 i hi).1
          have e1 : std.inb (fld l i 0) (std.ilen o) = true := by rw [std_ilen, std_inb]; exact decide_eq_true (by omega)
          simp only [impl_Overlay_l0, std_vlen, lt_nat_t hi, inb_nat_t hi, bt, vget_nat, e1, add1 (i := i) (by omega)]
          rfl
        · simp only [impl_Overlay_l0, lt_nat_f (Nat.le_refl _), bf]
      have e := foldB_list (fun r o => ov o r) l v
      simp only [bt, lp]
      rw [show foldB (fun i o => ov o (l.getD i [])) l.length v = l.foldl ov v from e]
      rfl
theorem Cut_val (l : List (List Int)) (hb : l.length ≤ 2147483648) (h : rowsOk l = true) (n : Nat) (hn : n ≤ l.length) (k : List (List Int) → R) : impl_Cut std l (n : Int) k = k (l.take n) := by
  unfold impl_Cut impl_Cut_f
  by_cases h0 : n = 0
  · subst h0
    rw [show std.le ((0 : Nat) : Int) 0 = true from rfl]
    exact bt _ _
  · have e1 : std.le (n : Int) 0 = false := by rw [std_le]; exact decide_eq_false (by omega)
    have e2 : std.imin (n : Int) (std.vlen l) = (n : Int) := by
      rw [std_vlen]
      rw [std_imin]
      omega
    have e3 : std.subb 0 (n : Int) (std.vlen l) = true := by rw [std_subb, std_vlen]; exact decide_eq_true (by omega)
    have e4 : std.vsub l 0 (n : Int) = l.take n := by rw [std_vsub]; simp
    have cp : ∀ kk : List (List Int) → R, impl_copyRows std (l.take n) kk = kk (l.take n) := fun kk => by
      unfold impl_copyRows impl_copyRows_f
      rw [show std.room (std.vlen []) (std.vlen (l.take n)) = true from room_s (a := 0) (b := (l.take n).length) (by rw [List.length_take]; omega)]
      exact bt _ _
    simp only [e1, bf, (RowsOk_val l hb _).2, h, bif_not, bt, e2, e3, e4, cp]
theorem sameInts_refl (a : List Int) (hb : a.length ≤ 2147483648) (k : Bool → R) : laws_sameInts std a a k = k true := by
  unfold laws_sameInts laws_sameInts_f
  generalize hN : std.fuel = N
  have hN : 4294967296 = N := hN
  have e : std.not (std.eq (std.ilen a) (std.ilen a)) = false := by simp
  have lp : laws_sameInts_l0 std N a a 0 (fun t => k t) (fun _ => k true) = bif allB (fun _ => true) a.length then k true else k false := by
    refine loop_all0 (F := fun n i => laws_sameInts_l0 std n a a i (fun t => k t) (fun _ => k true)) (by omega) (fun n i hi => ?_) (fun n => ?_)
    · have e2 : ∀ x : Int, std.not (std.eq x x) = false := fun x => by simp
      simp only [laws_sameInts_l0, std_ilen, lt_nat_t hi, inb_nat_t hi, bt, bf, e2, add1 (i := i) (by omega)]
    · simp only [laws_sameInts_l0, std_ilen, lt_nat_f (Nat.le_refl _), bf]
  rw [e, lp, show allB (fun _ => true) a.length = true from allB_iff.2 fun _ _ => rfl]; rfl
theorem sameRows_refl (a : List (List Int)) (hb : a.length ≤ 2147483648) (k : Bool → R) : laws_sameRows std a a k = k true := by
  unfold laws_sameRows laws_sameRows_f
  generalize hN : std.fuel = N
  have hN : 4294967296 = N := hN
  have e : std.not (std.eq (std.vlen a) (std.vlen a)) = false := by simp
  have lp : laws_sameRows_l0 std N a a 0 (fun t => k t) (fun _ => k true) = bif allB (fun _ => true) a.length then k true else k false := by
    refine loop_all0 (F := fun n i => laws_sameRows_l0 std n a a i (fun t => k t) (fun _ => k true)) (by omega) (fun n i hi => ?_) (fun n => ?_)
    · have e2 : ∀ x y : Int, std.not (std.and (std.eq x x) (std.eq y y)) = false := fun x y => by simp
      simp only [laws_sameRows_l0, std_vlen, lt_nat_t hi, inb_nat_t hi, bt, bf, e2, add1 (i := i) (by omega)]
    · simp only [laws_sameRows_l0, std_vlen, lt_nat_f (Nat.le_refl _), bf]
  rw [e, lp, show allB (fun _ => true) a.length = true from allB_iff.2 fun _ _ => rfl]; rfl
theorem at_val (code : List Int) (f : FitArr cx (.ints 5 .u8 code)) : ∃ x : Nat, ∀ k : Int → R, laws_at std code 0 k = k (x : Int) := by
  unfold laws_at laws_at_f
  cases code with
  | nil => exact ⟨0, fun k => rfl⟩
  | cons y code =>
    have hy := f.2 y (by simp)
    have e1 : std.lt 0 (std.ilen (y :: code)) = true := by rw [std_lt, std_ilen]; exact decide_eq_true (by rw [List.length_cons]; omega)
    have e2 : std.inb 0 (std.ilen (y :: code)) = true := by rw [std_inb, std_ilen]; exact decide_eq_true ⟨Int.le_refl _, by rw [List.length_cons]; omega⟩
    have h0 : 0 ≤ y := hy.1
    have h1 : y ≤ 255 := hy.2
    have e3 : std.wrap .i64 (std.iget (y :: code) 0) = (y.toNat : Int) := by
      show IntKind.i64.wrap y = _
      rw [i64_wrap (by omega) (by omega)]; omega
    refine ⟨y.toNat, fun k => ?_⟩
    rw [e1, e2, e3]
    rfl
end X
