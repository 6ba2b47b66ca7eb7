/- Models of the functions, or plain laws about them; each theorem states its own conditions. -/
import Derived.Test.YtnkgcegeinemjaaQC2
set_option linter.unusedVariables false
set_option linter.unusedSimpArgs false
open Go.Proofs
namespace X
open PM Go

/-! ## What a new commit has -/
theorem net_sorted (l : List (List Int)) : ((net l).map cellR).Pairwise (· < ·) := by
  refine (foldB_inv (f := netStep l) (len := 8) (s := []) (fun i o => (o.map cellR).Pairwise (· < ·) ∧ ∀ r ∈ o, cellR r < (i : Int)) ⟨List.Pairwise.nil, fun _ h => by cases h⟩ fun i o hi ho => ?_).1
  unfold netStep
  cases e : last l (i : Int) with
  | none => exact ⟨ho.1, fun r hr => by have := ho.2 r hr; omega⟩
  | some v =>
    refine ⟨?_, fun r hr => ?_⟩
    · show ((o ++ [[(i : Int), v]]).map cellR).Pairwise (· < ·)
      rw [List.map_append]
      refine pairwise_snoc ho.1 fun y hy => ?_
      obtain ⟨r, hr, rfl⟩ := List.mem_map.1 hy
      exact ho.2 r hr
    · rcases List.mem_append.1 hr with hr | hr
      · have := ho.2 r hr; omega
      · rw [List.mem_singleton] at hr; subst hr
        show (i : Int) < ((i + 1 : Nat) : Int)
        omega
theorem nth_map (P : List (List Int)) {i : Nat} (hi : i < P.length) : nth0 (P.map cellR) i = fld P i 0 := by
  unfold nth0 fld
  rw [List.getD_eq_getElem?_getD, List.getElem?_map, List.getElem?_eq_getElem hi, List.getD_eq_getElem?_getD (l := P), List.getElem?_eq_getElem hi]; rfl
theorem sorted_lt {P : List (List Int)} (h : (P.map cellR).Pairwise (· < ·)) {i j : Nat} (hi : i < j) (hj : j < P.length) : fld P i 0 < fld P j 0 := by
  have := (List.pairwise_iff_getElem.1 h) i j (by rw [List.length_map]; omega) (by rw [List.length_map]; omega) hi
  rw [← nth_map P (show i < P.length by omega), ← nth_map P hj]
  unfold nth0
  rw [List.getD_eq_getElem?_getD, List.getD_eq_getElem?_getD, List.getElem?_eq_getElem (by rw [List.length_map]; omega), List.getElem?_eq_getElem (by rw [List.length_map]; omega)]
  exact this
theorem net_base {cl : Int} {puts reads : List (List Int)} (hc : 0 ≤ cl ∧ cl ≤ 1000000) (h1 : rowsOk puts = true) (h2 : rowsOk reads = true) : Base cl (net puts) (cellsOf (net reads)) := by
  have n1 := net_inv puts
  have n2 := net_inv reads
  have s1 := net_sorted puts
  have s2 := net_sorted reads
  refine ⟨hc, n1.1, by rw [cellsOf_length]; exact n2.1, net_rows h1, n1.2, allB_iff.2 fun j hj => ?_, ?_⟩
  · have := sorted_lt s1 (show j < j + 1 by omega) (by omega)
    unfold upOk
    rw [decide_eq_false (by omega)]; rfl
  · unfold risingB
    rw [cellsOf_length, cellsOf_map]
    refine allB_iff.2 fun j hj => ?_
    have hr := ((rowsOk_spec (net_rows h2)).2 j hj).1
    unfold riseOk
    rw [nth_map _ hj, Bool.and_eq_true]
    refine ⟨decide_eq_true hr, ?_⟩
    by_cases h0 : 0 < j
    · have := sorted_lt s2 (show j - 1 < j by omega) hj
      rw [decide_eq_true h0, cond_true, nth_map _ (show j - 1 < (net reads).length by omega), decide_eq_false (by omega)]; rfl
    · rw [decide_eq_false h0]; rfl
theorem new_run {cl : Int} {l puts reads : List (List Int)} (hm : memOk cl l = true) (hw : Wide 3 l) (h : (commitNew 9 cl puts reads).2 = true) :
    Base cl (net puts) (cellsOf (net reads)) ∧ Run cl l (net puts) (cellsOf (net reads)) cl l (commitNew 9 cl puts reads).1 := by
  have hc := (memOk_spec hm).2.1
  have hg : GoodM 8 l := ⟨(memOk_spec hm).1, hw⟩
  have hs := commitNew_small 9 cl puts reads
  unfold commitNew at h hs ⊢
  cases e : inB 9 1 99 && (inB cl 0 1000000 && (rowsOk puts && rowsOk reads))
  · rw [e] at h; cases h
  · rw [e] at hs
    simp only [Bool.and_eq_true] at e
    obtain ⟨-, -, e1, e2⟩ := e
    have hb := net_base hc e1 e2
    refine ⟨hb, hg, hs, .inr ?_⟩
    by_cases h0 : (net puts).length = 0
    · have e0 : (((net puts).length : Int) == 0) = true := by rw [h0]; rfl
      exact ⟨2, 0, 0, 0, by simp only [e0, cond_true], hb.ok (by omega) (by omega) ⟨by omega, by show (0 : Int) ≤ 1 - 1; omega⟩, by omega, Lk.start hg, .inr ⟨.inl rfl, h0.symm⟩⟩
    · have e0 : (((net puts).length : Int) == 0) = false := beq_eq_false_iff_ne.2 (by omega)
      exact ⟨1, 0, 0, 0, by simp only [e0, cond_true, cond_false], hb.ok (by omega) (by omega) ⟨by omega, by show (0 : Int) ≤ ((net puts).length : Int) - 1; omega⟩, by omega, Lk.start hg, .inl ⟨rfl, rfl, by omega⟩⟩

/-! ## FnBroken -/
theorem Broken_l0 {cl : Int} {l P : List (List Int)} {Rd : List Int} (hb : Base cl P Rd) (hm : memOk cl l = true) (o1 : Int) (o2 : List (List Int)) : ∀ (m N : Nat) (cl' : Int) (l' : List (List Int)) (c : Cm), m ≤ 1000 → m < N → Run cl l P Rd cl' l' c →
    ∃ cl2 l2 c2, Run cl l P Rd cl2 l2 c2 ∧ ∀ kx, laws_FnBroken_l0 std (spec_MemOk std) (spec_CommitNew std) (impl_CommitNew std) (impl_CommitBreak std) (impl_CommitStep std) (laws_big std) (spec_DrawCommitStep std) (spec_DrawCommitNew std) (laws_at std) N m o1 o2 c.who c.rv c.ph c.pos c.wv c.puts c.reads cl' l' kx = kx o1 o2 c2.who c2.rv c2.ph c2.pos c2.wv c2.puts c2.reads cl2 l2
  | 0, N + 1, cl', l', c, _, hn, h => by
    have e : std.lt 0 ((0 : Nat) : Int) = false := rfl
    exact ⟨cl', l', c, h, fun kx => by simp only [laws_FnBroken_l0, e, bf]⟩
  | m + 1, N + 1, cl', l', c, hm1, hn, h => by
    have e : std.lt 0 ((m + 1 : Nat) : Int) = true := by rw [std_lt]; exact decide_eq_true (by omega)
    have v := CommitStep_val cl' l' c (by have := h.1.1; omega) h.2.1
    have g := run_step hb hm h
    generalize commitStep cl' l' c = cs at v g
    obtain ⟨cl1, l1, c1⟩ := cs
    obtain ⟨cl2, l2, c2, q1, q2⟩ := Broken_l0 hb hm o1 o2 m N cl1 l1 c1 (by omega) (by omega) g
    simp only at v q2
    exact ⟨cl2, l2, c2, q1, fun kx => by simp only [laws_FnBroken_l0, e, bt, (v _).2, Cm.k, sub1 (i := m) (by omega), q2]⟩
theorem Undo.good {cl : Int} {l P : List (List Int)} {Rd : List Int} {left : Nat} {cl' : Int} {l' : List (List Int)} {c : Cm} (h : Undo cl l P Rd left cl' l' c) : GoodM 8 l' := by
  rcases h.2.2 with ⟨-, hk⟩ | ⟨_, _, -, -, -, -, hk⟩
  · exact hk.good
  · exact hk.good
theorem Broken_l2 {cl : Int} {l P : List (List Int)} {Rd : List Int} (hb : Base cl P Rd) (hm : memOk cl l = true) (o1 : Int) (o2 : List (List Int)) : ∀ (m N i : Nat) (cl' : Int) (l' : List (List Int)) (c : Cm), i + m = 9 → m < N → Undo cl l P Rd m cl' l' c →
    ∃ cl2 l2 c2, Undo cl l P Rd 0 cl2 l2 c2 ∧ ∀ kx, laws_FnBroken_l2 std (spec_MemOk std) (spec_CommitNew std) (impl_CommitNew std) (impl_CommitBreak std) (impl_CommitStep std) (laws_big std) (spec_DrawCommitStep std) (spec_DrawCommitNew std) (laws_at std) N i o1 o2 cl' l' c.who c.rv c.ph c.pos c.wv c.puts c.reads kx = kx o1 o2 cl2 l2 c2.who c2.rv c2.ph c2.pos c2.wv c2.puts c2.reads
  | 0, N + 1, i, cl', l', c, hi, hn, h => by
    have e : std.lt (i : Int) 9 = false := lt_nat_f (n := 9) (by omega)
    exact ⟨cl', l', c, h, fun kx => by simp only [laws_FnBroken_l2, e, bf]⟩
  | m + 1, N + 1, i, cl', l', c, hi, hn, h => by
    have e : std.lt (i : Int) 9 = true := lt_nat_t (n := 9) (by omega)
    have v := CommitStep_val cl' l' c (by have := h.good.1; omega) h.1
    have g := undo_step hb hm h
    generalize commitStep cl' l' c = cs at v g
    obtain ⟨cl1, l1, c1⟩ := cs
    obtain ⟨cl2, l2, c2, q1, q2⟩ := Broken_l2 hb hm o1 o2 m N (i + 1) cl1 l1 c1 (by omega) (by omega) g
    simp only at v q2
    exact ⟨cl2, l2, c2, q1, fun kx => by simp only [laws_FnBroken_l2, e, bt, (v _).2, Cm.k, add1 (i := i) (by omega), q2]⟩
theorem break_late {c : Cm} (h : 4 ≤ c.ph) : commitBreak c = (c, false) := by
  unfold commitBreak
  rw [show (c.ph == 1) = false from beq_eq_false_iff_ne.2 (by omega), decide_eq_false (show ¬ c.ph ≤ 3 by omega)]
  cases commitOk c.who c.rv c.ph c.pos c.wv c.puts c.reads <;> rfl
end X
