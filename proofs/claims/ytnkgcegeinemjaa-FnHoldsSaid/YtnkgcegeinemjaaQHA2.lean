/- Models of the functions, or plain laws about them; each theorem states its own conditions. -/
import Derived.Test.YtnkgcegeinemjaaQHA
set_option linter.unusedVariables false
set_option linter.unusedSimpArgs false
open Go.Proofs
namespace X
open PM Go

/-! ## HoldAsk's models -/
theorem HoldAsk_l1 (c94 : spec_l1In_T) (c37 : spec_HoldsOk_T) (c43 : spec_Blocks_T) (c41 : spec_HoldOf_T) (l : List (List Int)) (hb : l.length ≤ 1048576) (hw : ∀ r ∈ l, r.length = 3) (who what m : Int) (kx : Bool → Int → Int → Int → List (List Int) → R) (N : Nat) (hN : l.length < N) :
    spec_HoldAsk_l0 std c94 c37 c43 c41 N l who what false 0 who what m [] kx = kx (l.any (geR who what)) who what m (goH who what m false l) := by
  have key : spec_HoldAsk_l0 std c94 c37 c43 c41 N l who what false 0 who what m [] kx = (fun s : Bool × List (List Int) => kx s.1 who what m s.2) (foldB (fun i s => askS who what m (l.getD i []) s) l.length (false, [])) := by
    refine loop_fold0 (F := fun n i (s : Bool × List (List Int)) => spec_HoldAsk_l0 std c94 c37 c43 c41 n l who what s.1 i who what m s.2 kx) (kx := fun s => kx s.1 who what m s.2) (f := fun i s => askS who what m (l.getD i []) s) (len := l.length) (s := (false, []))
      (fun i s => s.2.length ≤ i + (bif s.1 then 1 else 0)) hN (Nat.le_refl _) (fun n i s hi hv => ?_) (fun i s hi hv => ?_) (fun n s hv => ?_)
    · obtain ⟨d, o⟩ := s
      have hv : o.length ≤ i + (bif d then 1 else 0) := hv
      have hv2 : o.length ≤ i + 1 := by cases d <;> simp at hv <;> omega
      have hr := row3 (hw _ (getD_mem (d := []) hi))
      have ev : ∀ j, std.vget l (i : Int) j = (l.getD i []).getD j 0 := fun j => rfl
      generalize l.getD i [] = r at hr ev
      have er : ∀ q : List (List Int), q.length ≤ 1048580 → ∀ x : List Int, std.room (q.length : Int) ([x].length : Int) = true := fun q hq x => by rw [std_room]; exact decide_eq_true (by simp; omega)
      have er1 := er o (by omega)
      have er2 := er (o ++ [[who, what, m]]) (by simp; omega)
      simp only [spec_HoldAsk_l0, std_vlen, lt_nat_t hi, inb_nat_t hi, bt, ev, hr, std_not, std_eq, std_lt, std_le, add1 (i := i) (by omega), std_vapp, er1, er2, askS, geR, keyIs]
      cases d <;> cases decide (what < r.getD 1 0) <;> cases (r.getD 1 0 == what) <;> cases decide (who ≤ r.getD 0 0) <;> cases (r.getD 0 0 == who) <;>
        simp only [bt, bf, Bool.not_true, Bool.not_false, Bool.or_true, Bool.true_or, Bool.or_false, Bool.false_or, Bool.and_true, Bool.true_and, Bool.and_false, Bool.false_and, List.append_nil]
    · obtain ⟨d, o⟩ := s
      have hv : o.length ≤ i + (bif d then 1 else 0) := hv
      show ((bif !d && geR who what (l.getD i []) then o ++ [[who, what, m]] else o) ++ (bif keyIs who what (l.getD i []) then [] else [l.getD i []])).length ≤ i + 1 + (bif d || geR who what (l.getD i []) then 1 else 0)
      cases d <;> cases geR who what (l.getD i []) <;> cases keyIs who what (l.getD i []) <;> simp at hv ⊢ <;> omega
    · obtain ⟨d, o⟩ := s
      simp only [spec_HoldAsk_l0, std_vlen, lt_nat_f (Nat.le_refl _), bf]
  rw [key, foldB_rows (fun r s => askS who what m r s), askS_foldl]
  simp only [Bool.false_or, List.nil_append]
theorem HoldAsk_l2 (c113 : impl_copyHolds_T) (c110 : impl_isHold_T) (c39 : impl_HoldsOk_T) (c44 : impl_Blocks_T) (c116 : slices_SortFunc___impl_Hold_impl_Hold__T) (l : List (List Int)) (hb : l.length ≤ 1048576) (who what mode : Int) (kret : Bool → List (List Int) → R) (kx : Int → Int → Int → List (List Int) → R) (N : Nat) (hN : l.length < N) :
    impl_HoldAsk_l0 std c113 c110 c39 c44 c116 N who what mode (l.length : Int) 0 l kret kx = match keyAt l who what with | some p => kret true (std.vset l (p : Int) 2 (std.imax (fld l p 2) mode)) | none => kx who what mode l := by
  refine loop_find0 (p := fun i => keyIs who what (l.getD i [])) (len := l.length) (F := fun n i => impl_HoldAsk_l0 std c113 c110 c39 c44 c116 n who what mode (l.length : Int) i l kret kx) (kr := fun p => kret true (std.vset l (p : Int) 2 (std.imax (fld l p 2) mode))) (no := kx who what mode l) hN (fun n i hi => ?_) (fun n => ?_)
  · have e : keyIs who what (l.getD i []) = ((fld l i 1 == what) && (fld l i 0 == who)) := rfl
    simp only [impl_HoldAsk_l0, std_vlen, lt_nat_t hi, inb_nat_t hi, bt, vget_nat, std_eq, add1 (i := i) (by omega), e]
    cases (fld l i 1 == what) <;> cases (fld l i 0 == who) <;> simp only [bt, bf, Bool.and_true, Bool.and_false]
  · simp only [impl_HoldAsk_l0, lt_nat_f (Nat.le_refl _), bf]
theorem holdOk_dec (a b c : Int) : holdOk a b c = (decide (1 ≤ a ∧ a ≤ 9) && (decide (0 ≤ b ∧ b ≤ 8) && decide (1 ≤ c ∧ c ≤ 2))) := by
  unfold holdOk
  cases decide (1 ≤ a ∧ a ≤ 9) <;> cases decide (0 ≤ b ∧ b ≤ 8) <;> rfl
theorem holds_hd {l : List (List Int)} (h : holdsOk l = true) (hw : ∀ r ∈ l, r.length = 3) : ∀ r ∈ l, ∃ x : PM.Hd, r = PM.rowH x := by
  intro r hr
  obtain ⟨i, hi, rfl⟩ := List.getElem_of_mem hr
  have hg := holdOk_spec (good_hold (holdsOk_good h hi))
  have e : l.getD i [] = l[i] := by rw [List.getD_eq_getElem?_getD, List.getElem?_eq_getElem hi]; rfl
  unfold fld at hg
  rw [e] at hg
  have h3 := hw _ hr
  generalize l[i] = r at hg h3
  match r, h3 with
  | [a, b, c], _ =>
    simp only [List.getD_cons_zero, List.getD_cons_succ] at hg
    refine ⟨(⟨a.toNat, by omega⟩, ⟨b.toNat, by omega⟩, c), ?_⟩
    unfold PM.rowH
    simp only
    rw [Int.toNat_of_nonneg (by omega), Int.toNat_of_nonneg (by omega)]
theorem blocks_zero (l : List (List Int)) (who what mode : Int) : std.lt 0 (std.ilen (blocks l who what mode)) = !((blocks l who what mode).length == 0) := by
  rw [std_lt, std_ilen]
  cases h : (blocks l who what mode).length == 0
  · have := ne_of_beq_false h
    exact decide_eq_true (by omega)
  · have := eq_of_beq h
    exact decide_eq_false (by omega)
theorem vset_row {l : List (List Int)} (hw : ∀ r ∈ l, r.length = 3) {who what x : Int} {p : Nat} (hp : p < l.length) (hk : keyIs who what (l.getD p []) = true) : std.vset l (p : Int) 2 x = l.set p [who, what, x] := by
  rw [std_vset, Int.toNat_natCast]
  obtain ⟨e1, e2⟩ := keyIs_of hk
  have h3 := hw _ (getD_mem (d := []) hp)
  generalize l.getD p [] = r at e1 e2 h3
  match r, h3 with
  | [a, b, c], _ =>
    simp only [List.getD_cons_zero, List.getD_cons_succ] at e1 e2
    subst e1 e2; rfl
theorem HoldAsk_val (l : List (List Int)) (hb : l.length ≤ 1048576) (hw : ∀ r ∈ l, r.length = 3) (who what mode : Int) (k : List (List Int) → Bool → R) :
    spec_HoldAsk std l who what mode k = k (holdAsk l who what mode).1 (holdAsk l who what mode).2 ∧ impl_HoldAsk std l who what mode k = k (holdAsk l who what mode).1 (holdAsk l who what mode).2 := by
  have h2 : l.length ≤ 2147483648 := by omega
  have er0 : std.room ((([] : List (List Int)).length : Nat) : Int) (l.length : Int) = true := by rw [std_room]; exact decide_eq_true (by simp; omega)
  have ea : std.vapp [] l = l := rfl
  unfold spec_HoldAsk spec_HoldAsk_f impl_HoldAsk impl_HoldAsk_f holdAsk askOk
  generalize hN : std.fuel = N
  have hN : 4294967296 = N := hN
  simp only [HoldsOk_val l h2, HoldsOk_eq l h2, copyHolds_val l h2, isHold_val, l1In_val, (Blocks_val l hb _ _ _ _).1, (Blocks_val l hb _ _ _ _).2, (HoldOf_val l h2 _ _ _).1, bif_not, er0, bt, ea, HoldAsk_l1 _ _ _ _ l hb hw _ _ _ _ N (by omega), std_vlen, HoldAsk_l2 _ _ _ _ _ l hb _ _ _ _ _ N (by omega), blocks_zero, holdOk_dec]
  cases ho : holdsOk l
  · exact ⟨rfl, rfl⟩
  by_cases c1 : 1 ≤ who ∧ who ≤ 9
  case neg => refine ⟨?_, ?_⟩ <;> simp only [decide_eq_false c1, bt, bf, Bool.true_and, Bool.false_and]
  by_cases c2 : 0 ≤ what ∧ what ≤ 8
  case neg => refine ⟨?_, ?_⟩ <;> simp only [decide_eq_true c1, decide_eq_false c2, bt, bf, Bool.true_and, Bool.false_and]
  by_cases c3 : 1 ≤ mode ∧ mode ≤ 2
  case neg => refine ⟨?_, ?_⟩ <;> simp only [decide_eq_true c1, decide_eq_true c2, decide_eq_false c3, bt, bf, Bool.true_and, Bool.false_and]
  simp only [decide_eq_true c1, decide_eq_true c2, decide_eq_true c3, bt, bf, Bool.true_and]
  cases hz : (blocks l who what mode).length == 0
  · simp only [Bool.not_false, bt, bf, and_self]
  simp only [Bool.not_true, bt, bf]
  have hs := holds_sorted ho
  have hm : holdOf l who what = match keyAt l who what with | some p => fld l p 2 | none => 0 := by
    unfold holdOf keyAt findB
    rw [ho, cond_true, modeGo_key]
    cases findF (fun i => keyIs who what (l.getD i [])) l.length 0 <;> rfl
  have room1 : ∀ q : List (List Int), q.length ≤ l.length + 2 → ∀ x : List Int, std.room (q.length : Int) ([x].length : Int) = true := fun q hq x => by rw [std_room]; exact decide_eq_true (by simp; omega)
  have tail : ∀ m, askOut who what m l = askRows l who what mode → (bif (l.any (geR who what)) then k (goH who what m false l) true else (bif std.room ((goH who what m false l).length : Int) ([[who, what, m]].length : Int) then k (std.vapp (goH who what m false l) [[who, what, m]]) true else none)) = k (askRows l who what mode) true := by
    intro m he
    have hlen : (askRows l who what mode).length ≤ l.length + 1 := by
      unfold askRows
      split
      · rw [List.length_set]; omega
      · rw [(insL_perm who what mode l).length_eq]; simp
    have hl1 : (goH who what m false l).length ≤ l.length + 1 := by
      have : (askOut who what m l).length = (goH who what m false l).length + (bif l.any (geR who what) then [] else [[who, what, m]]).length := by unfold askOut; rw [List.length_append]
      rw [he] at this; omega
    rw [room1 _ (by omega), ← he]
    unfold askOut
    cases l.any (geR who what)
    · rfl
    · simp only [bt, List.append_nil]
  cases hk : keyAt l who what with
  | some p =>
    obtain ⟨p1, p2⟩ := keyAt_some hk
    rw [hk] at hm
    refine ⟨?_, ?_⟩
    · rw [hm]
      refine tail _ ?_
      rw [askOut_set who what _ hs p1 p2]
      unfold askRows
      rw [hk, imax_comm]
    · simp only
      rw [vset_row hw p1 p2]
      unfold askRows
      rw [hk]
  | none =>
    have hn := keyAt_none hk
    rw [hk] at hm
    have hmode : std.imax mode 0 = mode := by rw [std_imax]; split <;> omega
    refine ⟨?_, ?_⟩
    · rw [hm]
      refine tail _ ?_
      simp only
      rw [hmode, askOut_ins who what mode hn]
      unfold askRows
      rw [hk]
    · simp only
      rw [room1 l (by omega)]
      unfold slices_SortFunc___impl_Hold_impl_Hold_
      rw [bt, show std.vapp l [[who, what, mode]] = l ++ [[who, what, mode]] from rfl, srtK_eq (m := insL who what mode l) ⟨insL_perm who what mode l, insL_sorted who what mode hs hn, by simp, by simp; omega, fun r hr => ?_⟩]
      · unfold askRows
        rw [hk]
      · rcases List.mem_append.1 hr with hr | hr
        · exact holds_hd ho hw r hr
        · rw [List.mem_singleton] at hr
          subst hr
          refine ⟨(⟨who.toNat, by omega⟩, ⟨what.toNat, by omega⟩, mode), ?_⟩
          unfold PM.rowH
          simp only
          rw [Int.toNat_of_nonneg (by omega), Int.toNat_of_nonneg (by omega)]
theorem holdAsk_length (l : List (List Int)) (who what mode : Int) : (holdAsk l who what mode).1.length ≤ l.length + 1 := by
  unfold holdAsk askRows
  cases askOk l who what mode
  · exact Nat.le_succ _
  · rw [bt]
    simp only
    split
    · rw [List.length_set]; omega
    · rw [(insL_perm who what mode l).length_eq]; simp
theorem holdAsk_wide {l : List (List Int)} (hw : ∀ r ∈ l, r.length = 3) (who what mode : Int) : ∀ r ∈ (holdAsk l who what mode).1, r.length = 3 := by
  unfold holdAsk askRows
  cases askOk l who what mode
  · exact hw
  · rw [bt]
    simp only
    split
    · intro r hr
      rcases List.mem_or_eq_of_mem_set hr with hr | rfl
      · exact hw r hr
      · rfl
    · intro r hr
      rcases insL_mem hr with hr | rfl
      · exact hw r hr
      · rfl
theorem HoldAsk_true (l : List (List Int)) (who what mode : Int) (b : FitArr cx (.vecs 73 3 l)) (b1 : IntKind.i64.min ≤ who ∧ who ≤ IntKind.i64.max) (b2 : IntKind.i64.min ≤ what ∧ what ≤ IntKind.i64.max) (b3 : IntKind.i64.min ≤ mode ∧ mode ≤ IntKind.i64.max) (k : Bool → R) : laws_FnExactHoldAsk std l who what mode k = k true := by
  unfold laws_FnExactHoldAsk laws_FnExactHoldAsk_f
  rw [szHoldS_eq l 1048576 (by omega) (by omega) b.1]
  by_cases hl : (1048576 : Int) - l.length < 0
  · simp [hl]
  · have h : l.length ≤ 2147483648 := by omega
    have h20 : l.length ≤ 1048576 := by omega
    have hw : ∀ r ∈ l, r.length = 3 := fun r hr => (b.2 r hr).1
    have hr : (holdAsk l who what mode).1.length ≤ 2147483648 := Nat.le_trans (holdAsk_length _ _ _ _) (by omega)
    have hwr := holdAsk_wide hw who what mode
    have e0 : std.lt (1048576 - (l.length : Int)) 0 = false := by rw [std_lt]; exact decide_eq_false hl
    simp only [hl, if_false, e0, cond_false, toHoldS_eq l h hw, (HoldAsk_val l h20 hw _ _ _ _).1, (HoldAsk_val l h20 hw _ _ _ _).2, eqHoldS1 l h, eqHoldS1 _ hr, markHold1 l h hw, markHold1 _ hr hwr, pos3, held3 _ hr, eq_self, beq_self, not_true']
end X
