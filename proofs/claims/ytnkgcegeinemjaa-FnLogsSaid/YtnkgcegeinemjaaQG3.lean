/- Models of the functions, or plain laws about them; each theorem states its own conditions. -/
import Derived.Test.YtnkgcegeinemjaaQG2
set_option linter.unusedVariables false
set_option linter.unusedSimpArgs false
open Go.Proofs
namespace X
open PM Go

theorem ovl_vals {v : List Int} {l : List (List Int)} (hr : rowsOk l = true) (hv : ∀ i, i < v.length → 0 ≤ v.getD i 0 ∧ v.getD i 0 ≤ 65535) : ∀ i, i < (ovl v l).length → 0 ≤ (ovl v l).getD i 0 ∧ (ovl v l).getD i 0 ≤ 65535 := by
  intro i hi
  rw [ovl_length] at hi
  rw [ovl_get hr hi]
  cases e : last l (i : Int) with
  | none => exact hv i hi
  | some w => exact last_val hr e
theorem ovl_net {v : List Int} (h8 : v.length = 8) {l : List (List Int)} (hr : rowsOk l = true) : ovl v (net l) = ovl v l := by
  apply List.ext_getElem (by rw [ovl_length, ovl_length])
  intro j h1 h2
  have hj : j < v.length := by rw [ovl_length] at h1; exact h1
  have e1 := ovl_get (net_rows hr) hj
  have e2 := ovl_get hr hj
  rw [net_last hr (by omega), ← e2] at e1
  rw [List.getD_eq_getElem?_getD, List.getD_eq_getElem?_getD, List.getElem?_eq_getElem h1, List.getElem?_eq_getElem h2] at e1
  exact e1
theorem rows_part {l : List (List Int)} (h : rowsOk l = true) {m : List (List Int)} (hm : m.length ≤ l.length) (hs : ∀ r ∈ m, r ∈ l) : rowsOk m = true :=
  rok_rows (by have := (rowsOk_spec h).1; omega) fun r hr => rows_rok h r (hs r hr)
theorem FnLogs_true (code : List Int) (f : FitArr cx (.ints 5 .u8 code)) (k : Bool → R) : laws_FnLogs std code k = k true := by
  unfold laws_FnLogs laws_FnLogs_f
  have bigv : ∀ k : Bool → R, laws_big std code k = k (std.lt 1048576 (std.ilen code)) := fun k => rfl
  simp only [bigv]
  by_cases hb : 1048576 < code.length
  · have e : std.lt 1048576 (std.ilen code) = true := by rw [std_lt, std_ilen]; exact decide_eq_true (by omega)
    simp only [e, bt]
  · have e : std.lt 1048576 (std.ilen code) = false := by rw [std_lt, std_ilen]; exact decide_eq_false (by omega)
    obtain ⟨v, l, hv8, hvv, ⟨hl, hw⟩, hd⟩ := DrawOverlay_dr code (by omega)
    have hv2 : v.length ≤ 2147483648 := by omega
    have hl2 : l.length ≤ 2147483648 := by omega
    have hvi : ∀ i, i < v.length → 0 ≤ v.getD i 0 ∧ v.getD i 0 ≤ 65535 := fun i hi => by
      rw [List.getD_eq_getElem?_getD, List.getElem?_eq_getElem hi]
      exact hvv _ (List.getElem_mem hi)
    simp only [e, bf, hd, Overlay_val v hv2 l hl2, (RowsOk_val l hl2 _).1, bif_not]
    cases hr : rowsOk l
    · have : ovV v l = [] := by unfold ovV; rw [hr, Bool.and_false]; rfl
      rw [this]; rfl
    · by_cases h8 : v.length = 8
      · have va : valsB v 8 = true := valsB_of hvi (by omega)
        have ho : ∀ m, rowsOk m = true → ovV v m = ovl v m := fun m hm => by unfold ovV; rw [va, hm]; rfl
        have nl8 := (net_inv l).1
        have hnr := net_rows hr
        have e8 : std.eq (std.ilen v) 8 = true := by rw [std_ilen, h8]; rfl
        have ox : std.eq (std.ilen (ovl v l)) 8 = true := by rw [std_ilen, ovl_length, h8]; rfl
        have ec : std.eq (std.ilen (cellsOf (net l))) (std.vlen (net l)) = true := by rw [std_ilen, std_vlen, cellsOf_length]; simp
        simp only [bt, e8, ox, ho l hr, (Net_val l hl2 _).2, Overlay_val v hv2 (net l) (by omega), ho (net l) hnr, ovl_net h8 hr, sameInts_refl (ovl v l) (by rw [ovl_length]; omega), (Net_val (net l) (by omega) _).2, net_net hr, sameRows_refl (net l) (by omega), (CellsOf_val l hl2 _).2, ec]
        generalize hN : std.fuel = N
        have hN : 4294967296 = N := hN
        have lp : ∀ (kret : Bool → R) (kx : List Int → List Int → List (List Int) → List Int → R), laws_FnLogs_l0 std (spec_RowsOk std) (impl_Last std) (impl_Net std) (impl_CellsOf std) (laws_big std) (laws_at std) (impl_Overlay std) (laws_sameInts std) (laws_sameRows std) (laws_has std) (impl_Cut std) (spec_DrawOverlay std) N code v l (ovl v l) 0 kret kx = kx code v l (ovl v l) := by
          intro kret kx
          have h := loop_all0 (p := fun _ => true) (len := 8) (F := fun n i => laws_FnLogs_l0 std (spec_RowsOk std) (impl_Last std) (impl_Net std) (impl_CellsOf std) (laws_big std) (laws_at std) (impl_Overlay std) (laws_sameInts std) (laws_sameRows std) (laws_has std) (impl_Cut std) (spec_DrawOverlay std) n code v l (ovl v l) i kret kx) (yes := kx code v l (ovl v l)) (no := none) (N := N) (by omega) (fun n i hi => ?_) (fun n => ?_)
          · exact h
          · have e1 : std.lt (i : Int) 8 = true := lt_nat_t (n := 8) hi
            have i1 : std.inb (i : Int) (std.ilen (ovl v l)) = true := by rw [std_ilen, ovl_length, h8]; exact inb_nat_t hi
            have i2 : std.inb (i : Int) (std.ilen v) = true := by rw [std_ilen, h8]; exact inb_nat_t hi
            have g : std.iget (ovl v l) (i : Int) = (last l (i : Int)).getD (v.getD i 0) := ovl_get hr (by omega)
            have hh : hasB (cellsOf (net l)) (i : Int) = (last l (i : Int)).isSome := has_cells i hi
            have eqq : ∀ x : Int, std.eq x x = true := fun x => by simp
            have ebb : ∀ x : Bool, std.beq x x = true := fun x => by cases x <;> rfl
            simp only [laws_FnLogs_l0, e1, bt, (Last_val l hl2 _ _).2, i1, i2, g, (CellsOf_val l hl2 _).2, has_val _ (show (cellsOf (net l)).length ≤ 2147483648 by rw [cellsOf_length]; omega), hh, bif_not, add1 (i := i) (by omega), ebb]
            cases hL : last l (i : Int) with
            | none =>
              have gv : std.iget v (i : Int) = v.getD i 0 := rfl
              simp only [Option.isSome_none, bf, Option.getD_none, gv, eqq, bt]
            | some w => simp only [Option.isSome_some, bt, Option.getD_some, eqq]
          · have e1 : std.lt ((8 : Nat) : Int) 8 = false := lt_nat_f (n := 8) (Nat.le_refl _)
            simp only [laws_FnLogs_l0, e1, bf]
        simp only [lp]
        obtain ⟨y, hy⟩ := at_val code f
        -- the end, from a cut on
        have cut : ∀ n : Nat, n ≤ l.length → (impl_Cut std l (n : Int) fun r38 => impl_Overlay std v r38 fun r39 => bif std.subb (n : Int) (std.vlen l) (std.vlen l) then impl_Overlay std r39 (std.vsub l (n : Int) (std.vlen l)) fun r40 => laws_sameInts std r40 (ovl v l) fun r41 => bif r41 then impl_Cut std l (n : Int) fun r42 => k (std.eq (std.vlen r42) (n : Int)) else k false else none) = k true := by
          intro n hn
          have ht : rowsOk (l.take n) = true := rows_part hr (by rw [List.length_take]; omega) fun r h => List.mem_of_mem_take h
          have hdp : rowsOk (l.drop n) = true := rows_part hr (by rw [List.length_drop]; omega) fun r h => List.mem_of_mem_drop h
          have es : std.subb (n : Int) (std.vlen l) (std.vlen l) = true := by rw [std_vlen, std_subb]; exact decide_eq_true (by omega)
          have ed : std.vsub l (n : Int) (std.vlen l) = l.drop n := by
            rw [std_vlen, std_vsub]
            simp only [Int.toNat_natCast]
            exact List.take_of_length_le (by rw [List.length_drop]; omega)
          have ol : (ovl v (l.take n)).length = 8 := by rw [ovl_length, h8]
          have va2 : valsB (ovl v (l.take n)) 8 = true := valsB_of (ovl_vals ht hvi) (by omega)
          have oo : ovV (ovl v (l.take n)) (l.drop n) = ovl v l := by
            unfold ovV
            rw [va2, hdp]
            show ovl (ovl v (l.take n)) (l.drop n) = ovl v l
            unfold ovl
            rw [← List.foldl_append, List.take_append_drop]
          have el : std.eq (std.vlen (l.take n)) (n : Int) = true := by rw [std_vlen, List.length_take, Nat.min_eq_left hn]; simp
          simp only [Cut_val l hl2 hr n hn, Overlay_val v hv2 (l.take n) (by rw [List.length_take]; omega), ho _ ht, es, bt, ed, Overlay_val _ (show (ovl v (l.take n)).length ≤ 2147483648 by omega) (l.drop n) (by rw [List.length_drop]; omega), oo, sameInts_refl (ovl v l) (by rw [ovl_length]; omega), el]
        by_cases h0 : 0 < l.length
        · have e1 : std.lt 0 (std.vlen l) = true := by rw [std_lt, std_vlen]; exact decide_eq_true (by omega)
          have e2 : std.add .i64 (std.vlen l) 1 = ((l.length + 1 : Nat) : Int) := by rw [std_vlen]; exact add1 (by omega)
          have e3 : std.nz ((l.length + 1 : Nat) : Int) = true := by rw [std_nz]; exact decide_eq_true (by omega)
          have e4 : std.rem .i64 (y : Int) ((l.length + 1 : Nat) : Int) = ((y % (l.length + 1) : Nat) : Int) := by
            rw [std_rem]
            exact (Int.ofNat_tmod y (l.length + 1)).symm
          simp only [e1, bt, hy, e2, e3, e4]
          exact cut _ (by have := Nat.mod_lt y (show 0 < l.length + 1 by omega); omega)
        · have e1 : std.lt 0 (std.vlen l) = false := by rw [std_lt, std_vlen]; exact decide_eq_false (by omega)
          simp only [e1, bf]
          exact cut 0 (Nat.zero_le _)
      · have : ovV v l = [] := by
          unfold ovV valsB
          rw [show ((v.length : Int) == 8) = false from beq_eq_false_iff_ne.2 (by omega), Bool.and_false, Bool.false_and]; rfl
        have e8 : std.eq (std.ilen v) 8 = false := by rw [std_ilen, std_eq]; exact beq_eq_false_iff_ne.2 (by omega)
        rw [this]
        simp only [bt, e8, bf]; rfl
end X
