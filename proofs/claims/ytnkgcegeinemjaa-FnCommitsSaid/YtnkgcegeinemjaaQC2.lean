/- Models of the functions, or plain laws about them; each theorem states its own conditions. -/
import Derived.Test.YtnkgcegeinemjaaQC1
set_option linter.unusedVariables false
set_option linter.unusedSimpArgs false
open Go.Proofs
namespace X
open PM Go

/-- A commit that has not come to writing, or has gone past it. -/
def Run (cl : Int) (l P : List (List Int)) (Rd : List Int) (cl' : Int) (l' : List (List Int)) (c : Cm) : Prop :=
  GoodM 8 l' ∧ c.small ∧ (4 ≤ c.ph ∨ ∃ (ph pos wv : Int) (t : Nat), c = ⟨9, cl, ph, pos, wv, P, Rd⟩ ∧ commitOk 9 cl ph pos wv P Rd = true ∧ (cl ≤ cl' ∧ cl' ≤ 1000000) ∧ Lk l P t l' ∧
    ((ph = 1 ∧ pos = t ∧ t < P.length) ∨ ((ph = 2 ∨ ph = 3) ∧ t = P.length)))
theorem back_ph (c : Cm) (n : Int) : 4 ≤ (c.back n).ph := by
  unfold Cm.back
  cases n == 0 <;> simp
theorem on_ph (c : Cm) {p : Int} (h : 4 ≤ p) : 4 ≤ (c.on p).ph := by
  unfold Cm.on
  have e : (p == 3) = false := beq_eq_false_iff_ne.2 (by omega)
  simp only [e, Bool.false_and, cond_false]
  cases (p == 4) && ((c.puts.length : Int) == 0)
  · exact h
  · simp
theorem next_ph (c : Cm) (n : Int) {p : Int} (h : 4 ≤ p) (hc : 4 ≤ c.ph) : 4 ≤ (c.next n p).ph := by
  unfold Cm.next
  cases c.pos + 1 == n
  · exact hc
  · exact on_ph c h
theorem step_late {cl : Int} {l : List (List Int)} {c : Cm} (h : 4 ≤ c.ph) : 4 ≤ (commitStep cl l c).2.2.ph := by
  have e1 : (c.ph == 1) = false := beq_eq_false_iff_ne.2 (by omega)
  have e2 : (c.ph == 2) = false := beq_eq_false_iff_ne.2 (by omega)
  have e3 : (c.ph == 3) = false := beq_eq_false_iff_ne.2 (by omega)
  unfold commitStep
  simp only [e1, e2, e3, cond_false]
  cases memOk cl l && c.ok
  · exact h
  · cases c.ph == 4
    · cases c.ph == 5
      · cases c.ph == 7
        · exact h
        · exact back_ph _ _
      · exact next_ph _ _ (by omega) h
    · exact next_ph _ _ (by omega) h
theorem run_step {cl : Int} {l P : List (List Int)} {Rd : List Int} (hb : Base cl P Rd) (hm : memOk cl l = true) {cl' : Int} {l' : List (List Int)} {c : Cm} (h : Run cl l P Rd cl' l' c) :
    Run cl l P Rd (commitStep cl' l' c).1 (commitStep cl' l' c).2.1 (commitStep cl' l' c).2.2 := by
  obtain ⟨hg, hs, h⟩ := h
  have g := commitStep_good (cl := cl') hg hs
  refine ⟨g.1, g.2, ?_⟩
  rcases h with h | ⟨ph, pos, wv, t, rfl, hok, hcl, hk, hp⟩
  · exact .inl (step_late h)
  · have hm' := hk.mem hm hcl.1 hcl.2
    have hok2 : (⟨9, cl, ph, pos, wv, P, Rd⟩ : Cm).ok = true := hok
    obtain ⟨-, -, hwv, -, -, -, -, hpos⟩ := commitOk_spec hok
    unfold commitStep
    simp only [hm', hok2, Bool.and_self, cond_true]
    rcases hp with ⟨rfl, rfl, ht⟩ | ⟨rfl | rfl, rfl⟩
    · simp only [beq_self_eq_true, cond_true]
      have hc : 0 ≤ fld P t 0 ∧ fld P t 0 ≤ 7 := ((rowsOk_spec hb.rows).2 t ht).1
      have ec : (⟨9, cl, 1, (t : Int), wv, P, Rd⟩ : Cm).cell = fld P t 0 := rfl
      rw [ec]
      cases hL : lockB cl' l' (fld P t 0) 9
      · exact .inl (back_ph _ _)
      · have hf : fld l' (fld P t 0).toNat 2 = 0 := by
          unfold lockB at hL
          simp only [Bool.and_eq_true] at hL
          exact eq_of_beq hL.2.2.2
        have hk' := hk.lock hc hf
        simp only [cond_true]
        unfold Cm.next
        by_cases e : (t : Int) + 1 = P.length
        · have e' : ((t : Int) + 1 == (P.length : Int)) = true := by rw [e]; exact beq_self_eq_true _
          simp only [e', cond_true]
          exact .inr ⟨2, 0, wv, t + 1, rfl, hb.ok (by omega) hwv ⟨by omega, by show (0 : Int) ≤ 1 - 1; omega⟩, hcl, hk', .inr ⟨.inl rfl, by omega⟩⟩
        · have e' : ((t : Int) + 1 == (P.length : Int)) = false := beq_eq_false_iff_ne.2 e
          simp only [e', cond_false]
          exact .inr ⟨1, (t : Int) + 1, wv, t + 1, rfl, hb.ok (by omega) hwv ⟨by omega, by show (t : Int) + 1 ≤ (P.length : Int) - 1; omega⟩, hcl, hk', .inl ⟨rfl, by omega, by omega⟩⟩
    · simp only [show ((2 : Int) == 1) = false from rfl, beq_self_eq_true, cond_true, cond_false]
      by_cases e : cl' = 1000000
      · have e' : (cl' == 1000000) = true := by rw [e]; rfl
        simp only [e', cond_true]
        exact .inl (back_ph _ _)
      · have e' : (cl' == 1000000) = false := beq_eq_false_iff_ne.2 e
        simp only [e', cond_false]
        have hc0 := hb.clock
        by_cases er : Rd.length = 0
        · refine .inl ?_
          unfold Cm.on
          simp only [er, Int.ofNat_zero, Int.natCast_zero, beq_self_eq_true, Bool.and_self, cond_true]
          cases hz : ((P.length : Int) == 0) <;> simp [hz]
        · have er' : ((Rd.length : Int) == 0) = false := beq_eq_false_iff_ne.2 (by omega)
          have eon : (⟨9, cl, 2, pos, cl' + 1, P, Rd⟩ : Cm).on 3 = ⟨9, cl, 3, 0, cl' + 1, P, Rd⟩ := by
            unfold Cm.on
            simp only [er', Bool.and_false, cond_false]
            rfl
          refine .inr ⟨3, 0, cl' + 1, P.length, eon, hb.ok (by omega) (by omega) ⟨by omega, by show (0 : Int) ≤ (Rd.length : Int) - 1; omega⟩, by omega, hk, .inr ⟨.inr rfl, rfl⟩⟩
    · simp only [show ((3 : Int) == 1) = false from rfl, show ((3 : Int) == 2) = false from rfl, beq_self_eq_true, cond_true, cond_false]
      cases (!(fld l' (nth0 Rd pos.toNat).toNat 2 == 0) && !(fld l' (nth0 Rd pos.toNat).toNat 2 == 9)) || decide (cl < fld l' (nth0 Rd pos.toNat).toNat 1)
      · simp only [cond_false]
        have hpl : pos ≤ (Rd.length : Int) - 1 := hpos.2
        unfold Cm.next
        by_cases e : pos + 1 = Rd.length
        · have e' : (pos + 1 == (Rd.length : Int)) = true := by rw [e]; exact beq_self_eq_true _
          simp only [e', cond_true]
          exact .inl (on_ph _ (by omega))
        · have e' : (pos + 1 == (Rd.length : Int)) = false := beq_eq_false_iff_ne.2 e
          simp only [e', cond_false]
          exact .inr ⟨3, pos + 1, wv, P.length, rfl, hb.ok (by omega) hwv ⟨by omega, by show pos + 1 ≤ (Rd.length : Int) - 1; omega⟩, hcl, hk, .inr ⟨.inr rfl, rfl⟩⟩
      · exact .inl (back_ph _ _)
/-- A commit that goes back. -/
def Undo (cl : Int) (l P : List (List Int)) (Rd : List Int) (left : Nat) (cl' : Int) (l' : List (List Int)) (c : Cm) : Prop :=
  c.small ∧ (cl ≤ cl' ∧ cl' ≤ 1000000) ∧ ((c.ph = 8 ∧ Lk l P 0 l') ∨ ∃ (wv : Int) (t : Nat), c = ⟨9, cl, 7, (t : Int), wv, P, Rd⟩ ∧ (0 ≤ wv ∧ wv ≤ 1000000) ∧ t < P.length ∧ t < left ∧ Lk l P (t + 1) l')
theorem Undo.of_back {cl : Int} {l P : List (List Int)} {Rd : List Int} (hb : Base cl P Rd) {left : Nat} {cl' : Int} {l' : List (List Int)} {ph pos wv : Int} {t : Nat} (hcl : cl ≤ cl' ∧ cl' ≤ 1000000) (hw : 0 ≤ wv ∧ wv ≤ 1000000) (ht : t ≤ P.length) (hl : t ≤ left) (hk : Lk l P t l') :
    Undo cl l P Rd left cl' l' ((⟨9, cl, ph, pos, wv, P, Rd⟩ : Cm).back t) := by
  have hsm : ∀ a b : Int, (⟨9, cl, a, b, wv, P, Rd⟩ : Cm).small := fun a b => ⟨by show P.length ≤ _; have := hb.len; omega, by show Rd.length ≤ _; have := hb.rlen; omega, hb.wide⟩
  unfold Cm.back
  cases t with
  | zero => exact ⟨hsm 8 0, hcl, .inl ⟨rfl, hk⟩⟩
  | succ t =>
    have e : (((t + 1 : Nat) : Int) == 0) = false := beq_eq_false_iff_ne.2 (by omega)
    have e2 : ((t + 1 : Nat) : Int) - 1 = (t : Int) := by omega
    simp only [e, cond_false, e2]
    exact ⟨hsm 7 t, hcl, .inr ⟨wv, t, rfl, hw, by omega, by omega, hk⟩⟩
theorem undo_step {cl : Int} {l P : List (List Int)} {Rd : List Int} (hb : Base cl P Rd) (hm : memOk cl l = true) {left : Nat} {cl' : Int} {l' : List (List Int)} {c : Cm} (h : Undo cl l P Rd (left + 1) cl' l' c) :
    Undo cl l P Rd left (commitStep cl' l' c).1 (commitStep cl' l' c).2.1 (commitStep cl' l' c).2.2 := by
  obtain ⟨hs, hcl, h⟩ := h
  rcases h with ⟨h8, hk⟩ | ⟨wv, t, rfl, hw, ht, hl, hk⟩
  · have e : ∀ p : Int, p ≠ 8 → (c.ph == p) = false := fun p hp => beq_eq_false_iff_ne.2 (by omega)
    have es : commitStep cl' l' c = (cl', l', c) := by
      unfold commitStep
      simp only [e 1 (by omega), e 2 (by omega), e 3 (by omega), e 4 (by omega), e 5 (by omega), e 7 (by omega), cond_false]
      cases memOk cl' l' && c.ok <;> rfl
    rw [es]
    exact ⟨hs, hcl, .inl ⟨h8, hk⟩⟩
  · have hm' := hk.mem hm hcl.1 hcl.2
    have hok0 : commitOk 9 cl 7 (t : Int) wv P Rd = true := hb.ok (by omega) hw ⟨by omega, by show (t : Int) ≤ (P.length : Int) - 1; omega⟩
    have hok : (⟨9, cl, 7, (t : Int), wv, P, Rd⟩ : Cm).ok = true := hok0
    have hc : 0 ≤ fld P t 0 ∧ fld P t 0 ≤ 7 := ((rowsOk_spec hb.rows).2 t ht).1
    have ec : (⟨9, cl, 7, (t : Int), wv, P, Rd⟩ : Cm).cell = fld P t 0 := rfl
    have hmine := (hk.mine (fld P t 0).toNat (by omega) ⟨t, by omega, by omega⟩).1
    have hver := (memOk_spec hm').2.2 (fld P t 0).toNat (by omega)
    have hu : unlockB cl' l' (fld P t 0) 9 (fld l' (fld P t 0).toNat 1) = true := by
      unfold unlockB mineB
      simp only [Bool.and_eq_true]
      exact ⟨⟨hm', decide_eq_true hc, rfl, by rw [hmine]; rfl⟩, decide_eq_true ⟨Int.le_refl _, hver.2.1.2⟩⟩
    have hk' := hk.free hc (fun i hi => Int.ne_of_lt (up_lt hb.up hi ht))
    unfold commitStep
    simp only [hm', hok, Bool.and_self, cond_true, show ((7 : Int) == 1) = false from rfl, show ((7 : Int) == 2) = false from rfl, show ((7 : Int) == 3) = false from rfl, show ((7 : Int) == 4) = false from rfl, show ((7 : Int) == 5) = false from rfl, beq_self_eq_true, cond_false, ec, hu]
    exact Undo.of_back hb hcl hw (by omega) (by omega) hk'
end X
