/- Models of the functions, or plain laws about them; each theorem states its own conditions. -/
import Derived.Test.YtnkgcegeinemjaaQC7
set_option linter.unusedVariables false
set_option linter.unusedSimpArgs false
open Go.Proofs
namespace X
open PM Go

/-! ## FnCommits -/
theorem St.zero {cl : Int} {l P : List (List Int)} {Rd : List Int} {n : Nat} {cl' : Int} {l' : List (List Int)} {ph pos wv : Int} (h : St cl l P Rd n cl' l' ph pos wv) (h0 : n = 0) :
    (ph = 6 ∧ wv = cl + 1 ∧ cl < 1000000 ∧ Wr l P (cl + 1) P.length P.length l') ∨ (ph = 8 ∧ Lk l P 0 l') := by
  cases h with
  | p6 _ hl hk => exact .inl ⟨rfl, rfl, hl, hk⟩
  | p8 _ _ _ _ _ hk => exact .inr ⟨rfl, hk⟩
  | _ => omega
theorem put_some {puts : List (List Int)} {i : Nat} (hi : i < 8) {w : Int} (h : last puts (i : Int) = some w) : ∃ t, t < (net puts).length ∧ cel (net puts) t = i ∧ fld (net puts) t 1 = w := by
  have e := net_lst puts (i : Int)
  rw [if_pos (by omega), h] at e
  rcases ls_from (net puts) _ none w e with e | ⟨r, hr, h1, h2⟩
  · cases e
  · obtain ⟨t, ht, e⟩ := List.getElem_of_mem hr
    have e2 : (net puts).getD t [] = r := by rw [List.getD_eq_getElem?_getD, List.getElem?_eq_getElem ht, Option.getD_some, e]
    refine ⟨t, ht, ?_, ?_⟩
    · unfold cel fld
      rw [e2]
      have : r.getD 0 0 = (i : Int) := h1
      omega
    · unfold fld; rw [e2]; exact h2
theorem put_none {puts : List (List Int)} {i : Nat} (hi : i < 8) (h : last puts (i : Int) = none) : ¬ locked (net puts) (net puts).length i := by
  rintro ⟨t, ht, he⟩
  have e := net_lst puts (i : Int)
  rw [if_pos (by omega), h] at e
  have s := ls_some (net puts) (i : Int) none
  unfold lst at e
  rw [e, Option.isSome_none, Bool.false_or] at s
  have : (net puts).any (fun r => cellR r == (i : Int)) = true := by
    rw [List.any_eq_true]
    refine ⟨(net puts).getD t [], getD_mem ht, ?_⟩
    have : cellR ((net puts).getD t []) = (i : Int) := he
    rw [this]; exact beq_self_eq_true _
  rw [this] at s; cases s
theorem new_st {cl : Int} {l puts reads : List (List Int)} (hm : memOk cl l = true) (hw : Wide 3 l) (h : (commitNew 9 cl puts reads).2 = true) :
    Base cl (net puts) (cellsOf (net reads)) ∧ ∃ n ph, n ≤ 40 ∧ (commitNew 9 cl puts reads).1 = ⟨9, cl, ph, 0, 0, net puts, cellsOf (net reads)⟩ ∧ St cl l (net puts) (cellsOf (net reads)) n cl l ph 0 0 := by
  have hc := (memOk_spec hm).2.1
  have hg : GoodM 8 l := ⟨(memOk_spec hm).1, hw⟩
  unfold commitNew at h ⊢
  cases e : inB 9 1 99 && (inB cl 0 1000000 && (rowsOk puts && rowsOk reads))
  · rw [e] at h; cases h
  · simp only [Bool.and_eq_true] at e
    obtain ⟨-, -, e1, e2⟩ := e
    have hb := net_base hc e1 e2
    have hl := hb.len
    have hr := hb.rlen
    refine ⟨hb, ?_⟩
    by_cases h0 : (net puts).length = 0
    · have e0 : (((net puts).length : Int) == 0) = true := by rw [h0]; rfl
      refine ⟨_, 2, ?_, by simp only [e0, cond_true], .p2 l 0 (by omega) (by rw [h0]; exact Lk.start hg)⟩
      omega
    · have e0 : (((net puts).length : Int) == 0) = false := beq_eq_false_iff_ne.2 (by omega)
      refine ⟨_, 1, ?_, by simp only [e0, cond_true, cond_false], .p1 0 l 0 (by omega) (by omega) (Lk.start hg)⟩
      omega
theorem Commits_l0 {cl : Int} {l P : List (List Int)} {Rd : List Int} (hb : Base cl P Rd) (hm : memOk cl l = true) (hg0 : GoodM 8 l) (puts : List (List Int)) (n0 : Nat) (hn0 : n0 ≤ 40) (d1 d2 d3 d4 d5 : Int) (d6 : List (List Int)) (d7 : List Int) : ∀ (m N i n : Nat) (cl' : Int) (l' : List (List Int)) (ph pos wv : Int), i + m = n0 → m < N → n ≤ m → St cl l P Rd n cl' l' ph pos wv →
    ∃ cl2 l2 ph2 pos2 wv2, St cl l P Rd 0 cl2 l2 ph2 pos2 wv2 ∧ ∀ kret kx, laws_FnCommits_l0 std (spec_MemOk std) (spec_RowsOk std) (spec_CommitOk std) (spec_CommitLeft std) (impl_CommitLeft std) (spec_Last std) (impl_CommitNew std) (impl_CommitStep std) (laws_big std) (spec_DrawCommitStep std) (spec_DrawCommitNew std) N puts n0 i cl l d1 d2 d3 d4 d5 d6 d7 9 cl ph pos wv P Rd cl' l' kret kx = kx puts cl l d1 d2 d3 d4 d5 d6 d7 9 cl ph2 pos2 wv2 P Rd cl2 l2
  | 0, N + 1, i, n, cl', l', ph, pos, wv, hi, hN, hn, h => by
    obtain rfl : n = 0 := by omega
    have e : std.lt (i : Int) (n0 : Int) = false := lt_nat_f (by omega)
    exact ⟨cl', l', ph, pos, wv, h, fun kret kx => by simp only [laws_FnCommits_l0, e, bf]⟩
  | m + 1, N + 1, i, n, cl', l', ph, pos, wv, hi, hN, hn, h => by
    have e : std.lt (i : Int) (n0 : Int) = true := lt_nat_t (by omega)
    have hg := (h.ok hb hm).2.2
    have hs : (⟨9, cl, ph, pos, wv, P, Rd⟩ : Cm).small := ⟨by show P.length ≤ _; have := hb.len; omega, by show Rd.length ≤ _; have := hb.rlen; omega, hb.wide⟩
    have v := fun k => (CommitStep_val cl' l' ⟨9, cl, ph, pos, wv, P, Rd⟩ (by have := hg.1; omega) hs k).2
    obtain ⟨n', cl1, l1, ph1, pos1, wv1, es, hlt, h1⟩ := h.step hb hm hg0
    rw [es] at v
    simp only [Cm.k] at v
    have a := fun k => h.left hb hm k
    have b := fun k => h1.left hb hm k
    obtain ⟨cl2, l2, ph2, pos2, wv2, q1, q2⟩ := Commits_l0 hb hm hg0 puts n0 hn0 d1 d2 d3 d4 d5 d6 d7 m N (i + 1) n' cl1 l1 ph1 pos1 wv1 (by omega) (by omega) (by omega) h1
    refine ⟨cl2, l2, ph2, pos2, wv2, q1, fun kret kx => ?_⟩
    rcases hlt with hlt | ⟨rfl, rfl⟩
    · have e2 : std.le (n : Int) (n' : Int) = false := by rw [std_le]; exact decide_eq_false (by omega)
      simp only [laws_FnCommits_l0, e, bt, v, a, b, e2, bf, add1 (i := i) (by omega), q2]
    · have e2 : std.le ((0 : Nat) : Int) ((0 : Nat) : Int) = true := rfl
      have e3 : std.lt 0 ((0 : Nat) : Int) = false := rfl
      simp only [laws_FnCommits_l0, e, bt, v, a, b, e2, e3, bf, add1 (i := i) (by omega), q2]
end X
