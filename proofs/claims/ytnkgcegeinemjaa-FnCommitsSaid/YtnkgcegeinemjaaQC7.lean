/- Models of the functions, or plain laws about them; each theorem states its own conditions. -/
import Derived.Test.YtnkgcegeinemjaaQC6
set_option linter.unusedVariables false
set_option linter.unusedSimpArgs false
open Go.Proofs
namespace X
open PM Go

def Next (cl : Int) (l P : List (List Int)) (Rd : List Int) (n : Nat) (s : Int × List (List Int) × Cm) : Prop :=
  ∃ n' cl2 l2 ph2 pos2 wv2, s = (cl2, l2, ⟨9, cl, ph2, pos2, wv2, P, Rd⟩) ∧ (n' < n ∨ n = 0 ∧ n' = 0) ∧ St cl l P Rd n' cl2 l2 ph2 pos2 wv2
theorem Next.back {cl : Int} {l P : List (List Int)} {Rd : List Int} {n : Nat} {cl' : Int} {l' : List (List Int)} {ph pos wv : Int} {t : Nat} (hcl : cl ≤ cl' ∧ cl' ≤ 1000000) (hw : 0 ≤ wv ∧ wv ≤ 1000000) (ht : t ≤ P.length) (hn : t < n) (hk : Lk l P t l') :
    Next cl l P Rd n (cl', l', (⟨9, cl, ph, pos, wv, P, Rd⟩ : Cm).back t) := by
  unfold Cm.back
  cases t with
  | zero => exact ⟨0, cl', l', 8, 0, wv, rfl, .inl (by omega), .p8 cl' l' wv hcl hw hk⟩
  | succ t =>
    have e : (((t + 1 : Nat) : Int) == 0) = false := beq_eq_false_iff_ne.2 (by omega)
    have e2 : ((t + 1 : Nat) : Int) - 1 = (t : Int) := by omega
    simp only [e, cond_false, e2]
    exact ⟨t + 1, cl', l', 7, t, wv, rfl, .inl hn, .p7 t cl' l' wv hcl hw (by omega) hk⟩
theorem Next.on4 {cl : Int} {l P : List (List Int)} {Rd : List Int} {n : Nat} {l' : List (List Int)} {ph pos : Int} (hcl : cl < 1000000) (hn : 2 * P.length < n) (hk : Wr l P (cl + 1) 0 0 l') (p : Int) (hp : p = 4 ∨ p = 3 ∧ Rd.length = 0) :
    Next cl l P Rd n (cl + 1, l', (⟨9, cl, ph, pos, cl + 1, P, Rd⟩ : Cm).on p) := by
  have e : (bif (p == 3) && ((Rd.length : Int) == 0) then 4 else p) = 4 := by
    rcases hp with rfl | ⟨rfl, h⟩
    · rfl
    · rw [h]; rfl
  unfold Cm.on
  simp only [e]
  by_cases h0 : P.length = 0
  · rw [show (((4 : Int) == 4) && ((P.length : Int) == 0)) = true from by rw [h0]; rfl, cond_true]
    exact ⟨0, cl + 1, l', 6, 0, cl + 1, rfl, .inl (by omega), .p6 l' hcl (by rw [h0]; exact hk)⟩
  · have e0 : ((P.length : Int) == 0) = false := beq_eq_false_iff_ne.2 (by omega)
    simp only [e0, Bool.and_false, cond_false]
    exact ⟨2 * P.length - 0, cl + 1, l', 4, 0, cl + 1, rfl, .inl (by omega), .p4 0 l' hcl (by omega) hk⟩
theorem St.step {cl : Int} {l P : List (List Int)} {Rd : List Int} (hb : Base cl P Rd) (hm : memOk cl l = true) (hg0 : GoodM 8 l) {n : Nat} {cl' : Int} {l' : List (List Int)} {ph pos wv : Int} (h : St cl l P Rd n cl' l' ph pos wv) :
    Next cl l P Rd n (commitStep cl' l' ⟨9, cl, ph, pos, wv, P, Rd⟩) := by
  obtain ⟨ok, hm', hg⟩ := h.ok hb hm
  have ok2 : (⟨9, cl, ph, pos, wv, P, Rd⟩ : Cm).ok = true := ok
  have hc0 := hb.clock
  unfold commitStep
  simp only [hm', ok2, Bool.and_self, cond_true]
  cases h with
  | p1 t _ _ hw ht hk =>
    simp only [beq_self_eq_true, cond_true]
    have ec : (⟨9, cl, 1, (t : Int), wv, P, Rd⟩ : Cm).cell = fld P t 0 := rfl
    rw [ec]
    cases hL : lockB cl l' (fld P t 0) 9
    · exact .back ⟨Int.le_refl _, hc0.2⟩ hw (by omega) (by omega) hk
    · have hf : fld l' (fld P t 0).toNat 2 = 0 := by
        unfold lockB at hL
        simp only [Bool.and_eq_true] at hL
        exact eq_of_beq hL.2.2.2
      have hk' := hk.lock ((rowsOk_spec hb.rows).2 t ht).1 hf
      simp only [cond_true]
      unfold Cm.next
      by_cases e : (t : Int) + 1 = P.length
      · have e' : ((t : Int) + 1 == (P.length : Int)) = true := by rw [e]; exact beq_self_eq_true _
        simp only [e', cond_true]
        have et : t + 1 = P.length := by omega
        rw [et] at hk'
        exact ⟨_, cl, _, 2, 0, wv, rfl, .inl (by omega), .p2 _ wv hw hk'⟩
      · have e' : ((t : Int) + 1 == (P.length : Int)) = false := beq_eq_false_iff_ne.2 e
        simp only [e', cond_false]
        exact ⟨_, cl, _, 1, ((t + 1 : Nat) : Int), wv, rfl, .inl (by omega), .p1 (t + 1) _ wv hw (by omega) hk'⟩
  | p2 _ _ hw hk =>
    simp only [show ((2 : Int) == 1) = false from rfl, beq_self_eq_true, cond_true, cond_false]
    by_cases e : cl = 1000000
    · have e' : (cl == 1000000) = true := by rw [e]; rfl
      simp only [e', cond_true]
      exact .back ⟨Int.le_refl _, hc0.2⟩ hw (Nat.le_refl _) (by omega) hk
    · have e' : (cl == 1000000) = false := beq_eq_false_iff_ne.2 e
      simp only [e', cond_false]
      by_cases er : Rd.length = 0
      · exact .on4 (by omega) (by omega) (hk.toWr hb hg0 _) 3 (.inr ⟨rfl, er⟩)
      · have er' : ((Rd.length : Int) == 0) = false := beq_eq_false_iff_ne.2 (by omega)
        have eon : (⟨9, cl, 2, 0, cl + 1, P, Rd⟩ : Cm).on 3 = ⟨9, cl, 3, ((0 : Nat) : Int), cl + 1, P, Rd⟩ := by
          unfold Cm.on
          simp only [er', Bool.and_false, cond_false]
          rfl
        rw [eon]
        exact ⟨_, cl + 1, l', 3, ((0 : Nat) : Int), cl + 1, rfl, .inl (by omega), .p3 0 l' (by omega) (by omega) hk⟩
  | p3 t _ hl ht hk =>
    simp only [show ((3 : Int) == 1) = false from rfl, show ((3 : Int) == 2) = false from rfl, beq_self_eq_true, cond_true, cond_false]
    cases (!(fld l' (nth0 Rd (t : Int).toNat).toNat 2 == 0) && !(fld l' (nth0 Rd (t : Int).toNat).toNat 2 == 9)) || decide (cl < fld l' (nth0 Rd (t : Int).toNat).toNat 1)
    · simp only [cond_false]
      unfold Cm.next
      by_cases e : (t : Int) + 1 = Rd.length
      · have e' : ((t : Int) + 1 == (Rd.length : Int)) = true := by rw [e]; exact beq_self_eq_true _
        simp only [e', cond_true]
        exact .on4 hl (by omega) (hk.toWr hb hg0 _) 4 (.inl rfl)
      · have e' : ((t : Int) + 1 == (Rd.length : Int)) = false := beq_eq_false_iff_ne.2 e
        simp only [e', cond_false]
        exact ⟨_, cl + 1, l', 3, ((t + 1 : Nat) : Int), cl + 1, rfl, .inl (by omega), .p3 (t + 1) l' hl (by omega) hk⟩
    · exact .back ⟨by omega, by omega⟩ (by omega) (Nat.le_refl _) (by omega) hk
  | p4 t _ hl ht hk =>
    simp only [show ((4 : Int) == 1) = false from rfl, show ((4 : Int) == 2) = false from rfl, show ((4 : Int) == 3) = false from rfl, beq_self_eq_true, cond_true, cond_false]
    have hr := (rowsOk_spec hb.rows).2 t ht
    have ec : (⟨9, cl, 4, (t : Int), cl + 1, P, Rd⟩ : Cm).cell = fld P t 0 := rfl
    have hown : fld l' (fld P t 0).toNat 2 = 9 := by have := hk.own t ht; rw [if_neg (by omega)] at this; exact this
    have hs : storeB (cl + 1) l' (fld P t 0) 9 (fld P t 1) = true := by
      unfold storeB mineB
      simp only [Bool.and_eq_true]
      exact ⟨⟨hm', decide_eq_true hr.1, rfl, by rw [hown]; rfl⟩, decide_eq_true hr.2⟩
    have hk' := hk.store hb ht
    simp only [ec, Int.toNat_natCast, hs, cond_true]
    unfold Cm.next
    by_cases e : (t : Int) + 1 = P.length
    · have e' : ((t : Int) + 1 == (P.length : Int)) = true := by rw [e]; exact beq_self_eq_true _
      simp only [e', cond_true]
      have et : t + 1 = P.length := by omega
      rw [et] at hk'
      exact ⟨_, cl + 1, _, 5, ((0 : Nat) : Int), cl + 1, rfl, .inl (by omega), .p5 0 _ hl (by omega) hk'⟩
    · have e' : ((t : Int) + 1 == (P.length : Int)) = false := beq_eq_false_iff_ne.2 e
      simp only [e', cond_false]
      exact ⟨_, cl + 1, _, 4, ((t + 1 : Nat) : Int), cl + 1, rfl, .inl (by omega), .p4 (t + 1) _ hl (by omega) hk'⟩
  | p5 t _ hl ht hk =>
    simp only [show ((5 : Int) == 1) = false from rfl, show ((5 : Int) == 2) = false from rfl, show ((5 : Int) == 3) = false from rfl, show ((5 : Int) == 4) = false from rfl, beq_self_eq_true, cond_true, cond_false]
    have hr := (rowsOk_spec hb.rows).2 t ht
    have ec : (⟨9, cl, 5, (t : Int), cl + 1, P, Rd⟩ : Cm).cell = fld P t 0 := rfl
    have hown : fld l' (fld P t 0).toNat 2 = 9 := by have := hk.own t ht; rw [if_neg (by omega)] at this; exact this
    have hver : fld l' (fld P t 0).toNat 1 = fld l (fld P t 0).toNat 1 := by have := hk.ver t ht; rw [if_neg (by omega)] at this; exact this
    have hv := ((memOk_spec hm).2.2 (fld P t 0).toNat (by omega)).2.1
    have hs : unlockB (cl + 1) l' (fld P t 0) 9 (cl + 1) = true := by
      unfold unlockB mineB
      simp only [Bool.and_eq_true]
      exact ⟨⟨hm', decide_eq_true hr.1, rfl, by rw [hown]; rfl⟩, decide_eq_true (by rw [hver]; omega)⟩
    have hk' := hk.unlock hb ht
    simp only [ec, hs, cond_true]
    unfold Cm.next
    by_cases e : (t : Int) + 1 = P.length
    · have e' : ((t : Int) + 1 == (P.length : Int)) = true := by rw [e]; exact beq_self_eq_true _
      simp only [e', cond_true]
      have et : t + 1 = P.length := by omega
      rw [et] at hk'
      exact ⟨_, cl + 1, _, 6, 0, cl + 1, rfl, .inl (by omega), .p6 _ hl hk'⟩
    · have e' : ((t : Int) + 1 == (P.length : Int)) = false := beq_eq_false_iff_ne.2 e
      simp only [e', cond_false]
      exact ⟨_, cl + 1, _, 5, ((t + 1 : Nat) : Int), cl + 1, rfl, .inl (by omega), .p5 (t + 1) _ hl (by omega) hk'⟩
  | p6 _ hl hk => exact ⟨0, cl + 1, l', 6, 0, cl + 1, rfl, .inr ⟨rfl, rfl⟩, .p6 l' hl hk⟩
  | p7 t _ _ _ hcl hw ht hk =>
    have hc : 0 ≤ fld P t 0 ∧ fld P t 0 ≤ 7 := ((rowsOk_spec hb.rows).2 t ht).1
    have ec : (⟨9, cl, 7, (t : Int), wv, P, Rd⟩ : Cm).cell = fld P t 0 := rfl
    have hmine := (hk.mine (fld P t 0).toNat (by omega) ⟨t, by omega, by omega⟩).1
    have hver := (memOk_spec hm').2.2 (fld P t 0).toNat (by omega)
    have hu : unlockB cl' l' (fld P t 0) 9 (fld l' (fld P t 0).toNat 1) = true := by
      unfold unlockB mineB
      simp only [Bool.and_eq_true]
      exact ⟨⟨hm', decide_eq_true hc, rfl, by rw [hmine]; rfl⟩, decide_eq_true ⟨Int.le_refl _, hver.2.1.2⟩⟩
    have hk' := hk.free hc (fun i hi => Int.ne_of_lt (up_lt hb.up hi ht))
    simp only [show ((7 : Int) == 1) = false from rfl, show ((7 : Int) == 2) = false from rfl, show ((7 : Int) == 3) = false from rfl, show ((7 : Int) == 4) = false from rfl, show ((7 : Int) == 5) = false from rfl, beq_self_eq_true, cond_true, cond_false, ec, hu]
    exact .back hcl hw (by omega) (by omega) hk'
  | p8 _ _ _ hcl hw hk => exact ⟨0, cl', l', 8, 0, wv, rfl, .inr ⟨rfl, rfl⟩, .p8 cl' l' wv hcl hw hk⟩
end X
