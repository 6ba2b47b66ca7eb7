/- Models of the functions, or plain laws about them; each theorem states its own conditions. -/
import Derived.Test.YtlcgddghildedaaWX
import Derived.Test.YtlcgddghildedaaNFS2
set_option linter.unusedVariables false
set_option linter.unusedSimpArgs false
open Go Go.Proofs PM
namespace X
set_option maxRecDepth 100000
set_option maxHeartbeats 4000000
theorem AnyX_g : PM.GOk Try.prog cx 95 ⟨[], fun _ _ => none, some (PM.spBox (spec_l11Any_w spec_l11AnyX))⟩ := PM.GOk.ofS spec_l11Any_fn.enter (PM.spBox_ok AnyX_b)
noncomputable def spec_DrawStateAtX : spec_DrawStateAt_T := spec_DrawStateAt_f PM.std (spec_l1New PM.std) (spec_l1Below PM.std) (spec_l1Once PM.std) (spec_l3DrawVals PM.std) spec_l11AnyX
theorem spec_DrawStateAtX_g : PM.GOk Try.prog cx 22 ⟨[], spec_DrawStateAt_w spec_DrawStateAtX, none⟩ := by
  refine ⟨spec_DrawStateAt_fn.enter, fun _ ds k r h => ?_, fun hm => absurd rfl hm, fun _ e => (by cases e)⟩
  change spec_DrawStateAt_w spec_DrawStateAtX ds k = some r at h
  unfold spec_DrawStateAt_w at h
  split at h
  · exact PM.pfun_ok (E := spec_DrawStateAt_E PM.std (spec_l1New PM.std) (spec_l1Below PM.std) (spec_l1Once PM.std) (spec_l3DrawVals PM.std) spec_l11AnyX) (L := fun n => spec_DrawStateAt_L PM.std (spec_l1New PM.std) (spec_l1Below PM.std) (spec_l1Once PM.std) (spec_l3DrawVals PM.std) spec_l11AnyX n) (N := PM.std.fuel) cx_ok (.cons spec_l1New_g (.cons spec_l1Below_g (.cons spec_l1Once_g (.cons spec_l3DrawVals_g (.cons AnyX_g .nil))))) mixed .nil spec_DrawStateAt_fn (by kernel_rfl) ⟨rfl, fun _ _ _ => rfl, fun n cur σ K r h => by cases h⟩
      ((spec_DrawStateAt_ok PM.std (spec_l1New PM.std) (spec_l1Below PM.std) (spec_l1Once PM.std) (spec_l3DrawVals PM.std) spec_l11AnyX _ k).trans h)
  · cases h
noncomputable def laws_FnStatesX : laws_FnStates_T := laws_FnStates_f PM.std (spec_HistOk PM.std) (impl_Stamps PM.std) (spec_Overlay PM.std) (impl_StateAt PM.std) (laws_big PM.std) spec_DrawStateAtX (impl_LastWriter PM.std) (spec_Last PM.std) (laws_sameInts PM.std)
theorem laws_FnStatesX_g : PM.GOk Try.prog cx 3 ⟨[], laws_FnStates_w laws_FnStatesX, none⟩ := by
  refine ⟨laws_FnStates_fn.enter, fun _ ds k r h => ?_, fun hm => absurd rfl hm, fun _ e => (by cases e)⟩
  change laws_FnStates_w laws_FnStatesX ds k = some r at h
  unfold laws_FnStates_w at h
  split at h
  · exact PM.pfun_ok (E := laws_FnStates_E PM.std (spec_HistOk PM.std) (impl_Stamps PM.std) (spec_Overlay PM.std) (impl_StateAt PM.std) (laws_big PM.std) spec_DrawStateAtX (impl_LastWriter PM.std) (spec_Last PM.std) (laws_sameInts PM.std)) (L := fun n => laws_FnStates_L PM.std (spec_HistOk PM.std) (impl_Stamps PM.std) (spec_Overlay PM.std) (impl_StateAt PM.std) (laws_big PM.std) spec_DrawStateAtX (impl_LastWriter PM.std) (spec_Last PM.std) (laws_sameInts PM.std) n) (N := PM.std.fuel) cx_ok (.cons (PM.GOk.imm spec_HistOk_g) (.cons (PM.GOk.imm impl_Stamps_g) (.cons (PM.GOk.imm spec_Overlay_g) (.cons (PM.GOk.imm impl_StateAt_g) (.cons (PM.GOk.imm laws_big_g) (.cons (PM.GOk.imm spec_DrawStateAtX_g) (.cons (PM.GOk.imm impl_LastWriter_g) (.cons (PM.GOk.imm spec_Last_g) (.cons (PM.GOk.imm laws_sameInts_g) .nil))))))))) mixed .nil laws_FnStates_fn (by kernel_rfl) ⟨rfl, fun cur σ K => by
      dsimp only [laws_FnStates_L]
      split <;> rfl, fun n cur σ K r h => by
      dsimp only [laws_FnStates_L] at h
      split at h
      · exact (laws_FnStates_l0_ok PM.std (spec_HistOk PM.std) (impl_Stamps PM.std) (spec_Overlay PM.std) (impl_StateAt PM.std) (laws_big PM.std) spec_DrawStateAtX (impl_LastWriter PM.std) (spec_Last PM.std) (laws_sameInts PM.std) n _ _ _ _ _ K).symm.trans h
      · exact (laws_FnStates_l2_ok PM.std (spec_HistOk PM.std) (impl_Stamps PM.std) (spec_Overlay PM.std) (impl_StateAt PM.std) (laws_big PM.std) spec_DrawStateAtX (impl_LastWriter PM.std) (spec_Last PM.std) (laws_sameInts PM.std) n _ _ _ _ _ _ _ K).symm.trans h
      · exact (laws_FnStates_l4_ok PM.std (spec_HistOk PM.std) (impl_Stamps PM.std) (spec_Overlay PM.std) (impl_StateAt PM.std) (laws_big PM.std) spec_DrawStateAtX (impl_LastWriter PM.std) (spec_Last PM.std) (laws_sameInts PM.std) n _ _ _ _ _ K).symm.trans h
      · exact (laws_FnStates_l6_ok PM.std (spec_HistOk PM.std) (impl_Stamps PM.std) (spec_Overlay PM.std) (impl_StateAt PM.std) (laws_big PM.std) spec_DrawStateAtX (impl_LastWriter PM.std) (spec_Last PM.std) (laws_sameInts PM.std) n _ _ _ _ _ _ K).symm.trans h
      · cases h⟩
      ((laws_FnStates_ok PM.std (spec_HistOk PM.std) (impl_Stamps PM.std) (spec_Overlay PM.std) (impl_StateAt PM.std) (laws_big PM.std) spec_DrawStateAtX (impl_LastWriter PM.std) (spec_Last PM.std) (laws_sameInts PM.std) _ k).trans h)
  · cases h
/-! ## What is drawn -/
theorem bW_map {es : List E3} (hl : es.length ≤ 1048576) (h : ∀ e ∈ es, e.2.2.length ≤ 1048576 ∧ ∀ r ∈ e.2.2, r.length = 2) : bWroteS (es.map toRow) := by
  refine ⟨by simpa using hl, fun i hi => ?_⟩
  have hi : i < es.length := by simpa using hi
  have hm := h es[i] (List.getElem_mem hi)
  show (std.rsv 2 (es.map toRow) (i : Int) 2).length ≤ 1048576
  rw [rsv_row (a := es[i].1) (b := es[i].2.1) (l := es[i].2.2) (List.getElem?_eq_getElem hi) hm.2]
  exact hm.1
theorem bW_rset {a : List (List C)} (h : bWroteS a) (q : Int) (j : Nat) (hj : j ≠ 2) (c : C) : bWroteS (std.rset a q j c) := by
  have e : std.rset a q j c = a.set q.toNat ((a.getD q.toNat []).set j c) := rfl
  rw [e]
  refine ⟨by rw [List.length_set]; exact h.1, fun i hi => ?_⟩
  rw [List.length_set] at hi
  have hb : (std.rsv 2 a (i : Int) 2).length ≤ 1048576 := h.2 i hi
  show (std.rsv 2 _ (i : Int) 2).length ≤ 1048576
  rw [std_rsv, List.length_map, Int.toNat_natCast] at hb ⊢
  have e2 : cOf (a.set q.toNat ((a.getD q.toNat []).set j c)) i 2 = cOf a i 2 := by
    unfold cOf cAt
    by_cases hq : q.toNat = i
    · subst hq
      rw [List.getD_eq_getElem?_getD (l := a.set _ _), List.getElem?_set_self hi, Option.getD_some, List.getD_eq_getElem?_getD (l := List.set _ _ _), List.getElem?_set_ne hj, ← List.getD_eq_getElem?_getD]
    · rw [List.getD_eq_getElem?_getD (l := a.set _ _), List.getElem?_set_ne hq, ← List.getD_eq_getElem?_getD]
  rw [e2]
  exact hb
theorem AnyX_dr (code : List Int) (i h : Int) (ha : At code i) : ∃ (a : List (List C)) (i' h' : Int), bWroteS a ∧ At code i' ∧ ∀ k, spec_l11AnyX code i h k = k a code i' h' := by
  obtain ⟨es, i1, h1, q1, q2, a1, kH⟩ := Hist_dr code i h ha
  have hw : bWroteS (es.map toRow) := bW_map (by omega) fun e he => ⟨by have := (q2 e he).1; omega, (q2 e he).2⟩
  have hlen : (es.map toRow).length = es.length := by simp
  have hb : (0 ≤ i ∧ i ≤ (code.length : Int) ∧ code.length ≤ 1048576) := ha
  unfold spec_l11AnyX
  simp only [hb, and_self, if_true, kH, spec_l11Any, spec_l11Any_f]
  by_cases hz : es.length = 0
  · have e : std.eq (std.rlen (es.map toRow)) 0 = true := by rw [std_rlen, hlen, hz]; rfl
    simp only [e, bt]
    exact ⟨_, i1, h1, hw, a1, fun k => rfl⟩
  have e : std.eq (std.rlen (es.map toRow)) 0 = false := by rw [std_rlen, hlen, std_eq]; exact beq_eq_false_iff_ne.2 (by omega)
  obtain ⟨x5, i2, h2, p5, a2, k1⟩ := Below_pos code i1 h1 ((es.map toRow).length : Int) a1 (by omega)
  obtain ⟨x9, i3, h3, p9, a3, k2⟩ := Below_dr code i2 h2 20 a2
  have k1 : ∀ k, spec_l1Below std code i1 h1 (std.rlen (es.map toRow)) k = k x5 code i2 h2 := k1
  have k2 : ∀ k, spec_l1Below std code i2 h2 20 k = k x9 code i3 h3 := k2
  have n0 : std.inb 0 (std.rlen (es.map toRow)) = true := by rw [std_rlen, std_inb]; exact decide_eq_true (by omega)
  have n5 : std.inb x5 (std.rlen (es.map toRow)) = true := by rw [std_rlen, std_inb]; exact decide_eq_true p5
  simp only [e, bf, k1, k2, n0, n5, bt]
  by_cases h3' : x9 = 3
  · subst h3'
    have e3 : std.eq 3 3 = true := rfl
    have hq : x5.toNat < es.length := by omega
    have hs := q2 es[x5.toNat] (List.getElem_mem hq)
    have hx : ((x5.toNat : Nat) : Int) = x5 := by omega
    refine ⟨anyR (es.map toRow) x5, i3, h3, ?_, a3, fun k => by simp only [e3, bt]⟩
    rw [← hx, ← anyR_eq (a := es[x5.toNat].1) (b := es[x5.toNat].2.1) (l := es[x5.toNat].2.2) (List.getElem?_eq_getElem hq) hs.2]
    refine bW_map (by rw [List.length_set]; omega) fun e he => ?_
    rcases List.mem_or_eq_of_mem_set he with he | rfl
    · exact ⟨by have := (q2 e he).1; omega, (q2 e he).2⟩
    · refine ⟨by have := hs.1; simp only [List.length_append, List.length_singleton]; omega, fun r hr => ?_⟩
      rcases List.mem_append.1 hr with hr | hr
      · exact hs.2 r hr
      · rw [List.mem_singleton] at hr; subst hr; rfl
  · have e3 : std.eq x9 3 = false := by rw [std_eq]; exact beq_eq_false_iff_ne.2 h3'
    simp only [e3, bf]
    cases std.eq x9 0
    · cases std.eq x9 1
      · cases std.eq x9 2
        · exact ⟨_, i3, h3, hw, a3, fun k => rfl⟩
        · exact ⟨_, i3, h3, bW_rset hw _ _ (by omega) _, a3, fun k => rfl⟩
      · exact ⟨_, i3, h3, bW_rset hw _ _ (by omega) _, a3, fun k => rfl⟩
    · exact ⟨_, i3, h3, bW_rset hw _ _ (by omega) _, a3, fun k => rfl⟩
theorem FnStates_true (code : List Int) (f : FitArr cx (.ints 5 .u8 code)) (k : Bool → R) : laws_FnStatesX code k = k true := by
  refine FnStates_drawn _ code k fun hb => ?_
  unfold spec_DrawStateAtX spec_DrawStateAt_f
  obtain ⟨h0, k0⟩ := New_dr code hb
  obtain ⟨v, i1, h1, ⟨v8, hv⟩, a1, k1⟩ := Vals3_dr code 0 h0 ⟨Int.le_refl _, by omega, hb⟩
  obtain ⟨x, i2, h2, -, a2, k2⟩ := Once_dr code i1 h1 20 a1
  obtain ⟨a, i3, h3, hw, a3, k3⟩ := AnyX_dr code i2 h2 a2
  obtain ⟨y, i4, h4, -, a4, k4⟩ := Below_dr code i3 h3 20 a3
  have k1 : ∀ k, spec_l3DrawVals std code 0 h0 k = k v code i1 h1 := k1
  have k2 : ∀ k, spec_l1Once std code i1 h1 20 k = k x code i2 h2 := k2
  have k4 : ∀ k, spec_l1Below std code i3 h3 20 k = k y code i4 h4 := k4
  have es : std.subb 0 1 (std.ilen v) = true := by rw [std_ilen, v8]; rfl
  simp only [k0, k1, k2, k3, k4, es, bt]
  have hvv : valsB v 8 = true := vals_iff.2 ⟨v8, fun i hi => by
    rw [List.getD_eq_getElem?_getD, List.getElem?_eq_getElem (by omega), Option.getD_some]
    exact hv _ (List.getElem_mem _)⟩
  cases x
  · exact ⟨v, a, _, by omega, fun _ => hvv, hw, fun k => rfl⟩
  · have hl : (std.isub v 0 1).length = 1 := by
      match v, v8 with
      | _ :: _, _ => rfl
    exact ⟨std.isub v 0 1, a, _, by omega, fun h => by omega, hw, fun k => rfl⟩
end X
