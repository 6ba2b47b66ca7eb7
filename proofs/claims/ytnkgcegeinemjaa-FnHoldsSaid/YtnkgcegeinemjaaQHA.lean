/- Models of the functions, or plain laws about them; each theorem states its own conditions. -/
import Derived.Test.YtnkgcegeinemjaaQHF
import Derived.Test.YtnkgcegeinemjaaQH
set_option linter.unusedVariables false
set_option linter.unusedSimpArgs false
open Go.Proofs
namespace X
open PM Go

/-! ## HoldAsk, plain -/
def keyIs (who what : Int) (r : List Int) : Bool := (r.getD 1 0 == what) && (r.getD 0 0 == who)
def geR (who what : Int) (r : List Int) : Bool := decide (what < r.getD 1 0) || ((r.getD 1 0 == what) && decide (who ≤ r.getD 0 0))
def askS (who what m : Int) (r : List Int) (s : Bool × List (List Int)) : Bool × List (List Int) :=
  (s.1 || geR who what r, (bif !s.1 && geR who what r then s.2 ++ [[who, what, m]] else s.2) ++ (bif keyIs who what r then [] else [r]))
def goH (who what m : Int) : Bool → List (List Int) → List (List Int)
  | _, [] => []
  | d, r :: l => (bif !d && geR who what r then [[who, what, m]] else []) ++ ((bif keyIs who what r then [] else [r]) ++ goH who what m (d || geR who what r) l)
theorem askS_foldl (who what m : Int) : ∀ (l : List (List Int)) (d : Bool) (o : List (List Int)), l.foldl (fun s r => askS who what m r s) (d, o) = (d || l.any (geR who what), o ++ goH who what m d l)
  | [], d, o => by simp [goH]
  | r :: l, d, o => by
    rw [List.foldl_cons, askS, askS_foldl who what m l, goH, List.any_cons]
    refine Prod.ext ?_ ?_
    · exact Bool.or_assoc _ _ _
    · simp only
      cases hd : (!d && geR who what r)
      · simp only [cond_false, List.nil_append, List.append_assoc]
      · simp only [cond_true, List.append_assoc]
def askOut (who what m : Int) (l : List (List Int)) : List (List Int) := goH who what m false l ++ (bif l.any (geR who what) then [] else [[who, what, m]])
def insL (who what m : Int) : List (List Int) → List (List Int)
  | [] => [[who, what, m]]
  | r :: l => bif geR who what r then [who, what, m] :: r :: l else r :: insL who what m l
theorem goH_true (who what m : Int) : ∀ {l : List (List Int)}, (∀ r ∈ l, keyIs who what r = false) → goH who what m true l = l
  | [], _ => rfl
  | r :: l, h => by
    rw [goH, h r (by simp), Bool.true_or, goH_true who what m fun s hs => h s (List.mem_cons_of_mem _ hs)]
    rfl
theorem askOut_ins (who what m : Int) : ∀ {l : List (List Int)}, (∀ r ∈ l, keyIs who what r = false) → askOut who what m l = insL who what m l
  | [], _ => rfl
  | r :: l, h => by
    have hl : ∀ s ∈ l, keyIs who what s = false := fun s hs => h s (List.mem_cons_of_mem _ hs)
    have ih := askOut_ins who what m hl
    unfold askOut at ih ⊢
    rw [goH, insL, List.any_cons, h r (by simp)]
    cases hg : geR who what r
    · simp only [Bool.false_or, Bool.and_false, cond_false, List.nil_append]
      rw [List.append_assoc, ih]; rfl
    · simp only [Bool.true_or, Bool.not_false, Bool.and_true, cond_true, cond_false, Bool.or_true]
      rw [goH_true who what m hl]; simp
theorem insL_perm (who what m : Int) : ∀ (l : List (List Int)), (insL who what m l).Perm (l ++ [[who, what, m]])
  | [] => List.Perm.refl _
  | r :: l => by
    rw [insL]
    cases geR who what r
    · exact (insL_perm who what m l).cons r
    · rw [cond_true, List.cons_append]
      have : ([who, what, m] :: r :: l).Perm (r :: l ++ [[who, what, m]]) := (List.perm_append_singleton [who, what, m] (r :: l)).symm
      exact this
theorem ge_lt {who what m : Int} {r : List Int} (h : geR who what r = true) (hk : keyIs who what r = false) : ltR [who, what, m] r := by
  unfold geR at h
  unfold keyIs at hk
  unfold ltR
  simp only [List.getD_cons_zero, List.getD_cons_succ]
  by_cases h1 : what < r.getD 1 0
  · exact .inl h1
  · rw [decide_eq_false h1, Bool.false_or, Bool.and_eq_true] at h
    have e1 := eq_of_beq h.1
    have e2 := of_decide_eq_true h.2
    rw [h.1, Bool.true_and] at hk
    have e3 := ne_of_beq_false hk
    omega
theorem nge_lt {who what m : Int} {r : List Int} (h : geR who what r = false) : ltR r [who, what, m] := by
  unfold geR at h
  unfold ltR
  simp only [List.getD_cons_zero, List.getD_cons_succ]
  rw [Bool.or_eq_false_iff] at h
  have h1 := of_decide_eq_false h.1
  by_cases e : r.getD 1 0 = what
  · rw [show (r.getD 1 0 == what) = true by simpa using e, Bool.true_and] at h
    have := of_decide_eq_false h.2
    omega
  · omega
theorem insL_mem {who what m : Int} {l : List (List Int)} {x : List Int} (h : x ∈ insL who what m l) : x ∈ l ∨ x = [who, what, m] := by
  have := (insL_perm who what m l).mem_iff.1 h
  rw [List.mem_append, List.mem_singleton] at this
  exact this
theorem insL_sorted (who what m : Int) : ∀ {l : List (List Int)}, l.Pairwise ltR → (∀ r ∈ l, keyIs who what r = false) → (insL who what m l).Pairwise ltR
  | [], _, _ => List.pairwise_singleton _ _
  | r :: l, hs, hk => by
    have h1 := List.pairwise_cons.1 hs
    rw [insL]
    cases hg : geR who what r
    · rw [cond_false, List.pairwise_cons]
      refine ⟨fun x hx => ?_, insL_sorted who what m h1.2 fun s hs => hk s (List.mem_cons_of_mem _ hs)⟩
      rcases insL_mem hx with hx | rfl
      · exact h1.1 x hx
      · exact nge_lt hg
    · rw [cond_true, List.pairwise_cons]
      have hr : ltR [who, what, m] r := ge_lt hg (hk r (by simp))
      refine ⟨fun x hx => ?_, hs⟩
      rcases List.mem_cons.1 hx with rfl | hx
      · exact hr
      · exact ltR_trans hr (h1.1 x hx)
theorem keyIs_of {who what : Int} {r : List Int} (h : keyIs who what r = true) : r.getD 1 0 = what ∧ r.getD 0 0 = who := by
  unfold keyIs at h
  rw [Bool.and_eq_true] at h
  exact ⟨eq_of_beq h.1, eq_of_beq h.2⟩
theorem key_ge {who what : Int} {r : List Int} (h : keyIs who what r = true) : geR who what r = true := by
  obtain ⟨e1, e2⟩ := keyIs_of h
  unfold geR
  rw [e1, e2, show (what == what) = true from beq_self_eq_true _, decide_eq_true (Int.le_refl who)]; simp
theorem lt_nge {who what : Int} {r s : List Int} (h : ltR r s) (hs : keyIs who what s = true) : geR who what r = false ∧ keyIs who what r = false := by
  obtain ⟨e1, e2⟩ := keyIs_of hs
  unfold ltR at h
  refine ⟨?_, ?_⟩
  · unfold geR
    rw [Bool.or_eq_false_iff]
    refine ⟨decide_eq_false (by omega), ?_⟩
    by_cases e : r.getD 1 0 = what
    · rw [decide_eq_false (by omega), Bool.and_false]
    · rw [show (r.getD 1 0 == what) = false from beq_eq_false_iff_ne.2 e]; rfl
  · unfold keyIs
    by_cases e : r.getD 1 0 = what
    · rw [show (r.getD 0 0 == who) = false from beq_eq_false_iff_ne.2 (by omega), Bool.and_false]
    · rw [show (r.getD 1 0 == what) = false from beq_eq_false_iff_ne.2 e]; rfl
theorem askOut_set (who what m : Int) : ∀ {l : List (List Int)} {p : Nat}, l.Pairwise ltR → p < l.length → keyIs who what (l.getD p []) = true → askOut who what m l = l.set p [who, what, m]
  | [], p, _, hp, _ => absurd hp (Nat.not_lt_zero _)
  | r :: l, 0, hs, _, hk => by
    have h1 := List.pairwise_cons.1 hs
    have hk : keyIs who what r = true := hk
    unfold askOut
    have hg := key_ge hk
    have hn : ∀ s ∈ l, keyIs who what s = false := fun s hs' => by
      cases e : keyIs who what s
      · rfl
      · have := (lt_nge (h1.1 s hs') e).2
        rw [hk] at this; cases this
    rw [goH, hg, hk, List.any_cons, hg, Bool.false_or, goH_true who what m hn]
    simp
  | r :: l, p + 1, hs, hp, hk => by
    have h1 := List.pairwise_cons.1 hs
    have hk : keyIs who what (l.getD p []) = true := hk
    have hp : p < l.length := by simpa using hp
    obtain ⟨g1, g2⟩ := lt_nge (h1.1 _ (getD_mem hp)) hk
    have ih := askOut_set who what m h1.2 hp hk
    unfold askOut at ih ⊢
    rw [goH, g1, g2, List.any_cons, g1]
    simp only [Bool.false_or, Bool.and_false, cond_false, List.nil_append, List.cons_append]
    rw [ih]; rfl
theorem holds_sorted {l : List (List Int)} (h : holdsOk l = true) : l.Pairwise ltR := by
  rw [List.pairwise_iff_getElem]
  intro i j hi hj hij
  have := holds_lex h hij hj
  unfold lexlt fld at this
  have e : ∀ q (hq : q < l.length), l.getD q [] = l[q] := fun q hq => by rw [List.getD_eq_getElem?_getD, List.getElem?_eq_getElem hq]; rfl
  rw [← e i hi, ← e j hj]
  exact this
/-- The place of a key. -/
def keyAt (l : List (List Int)) (who what : Int) : Option Nat := findB (fun i => keyIs who what (l.getD i [])) l.length
theorem findF_some {p : Nat → Bool} : ∀ {m i j : Nat}, findF p m i = some j → i ≤ j ∧ j < i + m ∧ p j = true
  | 0, _, _, h => by cases h
  | m + 1, i, j, h => by
    rw [findF] at h
    cases hp : p i
    · rw [hp, cond_false] at h
      obtain ⟨a, b, c⟩ := findF_some h
      exact ⟨by omega, by omega, c⟩
    · rw [hp, cond_true] at h
      cases h
      exact ⟨Nat.le_refl _, by omega, hp⟩
theorem findF_none {p : Nat → Bool} : ∀ {m i : Nat}, findF p m i = none → ∀ j, i ≤ j → j < i + m → p j = false
  | 0, _, _, j, h1, h2 => by omega
  | m + 1, i, h, j, h1, h2 => by
    rw [findF] at h
    cases hp : p i
    · rw [hp, cond_false] at h
      by_cases e : i = j
      · subst e; exact hp
      · exact findF_none h j (by omega) (by omega)
    · rw [hp, cond_true] at h; cases h
theorem keyAt_some {l : List (List Int)} {who what : Int} {p : Nat} (h : keyAt l who what = some p) : p < l.length ∧ keyIs who what (l.getD p []) = true := by
  obtain ⟨_, b, c⟩ := findF_some h
  exact ⟨by omega, c⟩
theorem keyAt_none {l : List (List Int)} {who what : Int} (h : keyAt l who what = none) : ∀ r ∈ l, keyIs who what r = false := by
  intro r hr
  obtain ⟨i, hi, rfl⟩ := List.getElem_of_mem hr
  have := findF_none h i (Nat.zero_le _) (by omega)
  rw [List.getD_eq_getElem?_getD, List.getElem?_eq_getElem hi] at this
  exact this
theorem modeGo_key (l : List (List Int)) (who what : Int) : ∀ (m i : Nat), modeGo l who what m i = match findF (fun i => keyIs who what (l.getD i [])) m i with | some p => fld l p 2 | none => 0
  | 0, i => rfl
  | m + 1, i => by
    rw [modeGo, findF, modeGo_key l who what m (i + 1)]
    have e : keyIs who what (l.getD i []) = ((fld l i 1 == what) && (fld l i 0 == who)) := rfl
    rw [e]
    cases (fld l i 1 == what) <;> cases (fld l i 0 == who) <;> rfl
theorem imax_comm (a b : Int) : std.imax a b = std.imax b a := by
  rw [std_imax, std_imax]; split <;> split <;> omega
def askOk (l : List (List Int)) (who what mode : Int) : Bool := holdsOk l && (holdOk who what mode && ((blocks l who what mode).length == 0))
def askRows (l : List (List Int)) (who what mode : Int) : List (List Int) := match keyAt l who what with
  | some p => l.set p [who, what, std.imax (fld l p 2) mode]
  | none => insL who what mode l
def holdAsk (l : List (List Int)) (who what mode : Int) : List (List Int) × Bool := bif askOk l who what mode then (askRows l who what mode, true) else (l, false)
end X
