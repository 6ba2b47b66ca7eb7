/- Models of the functions, or plain laws about them; each theorem states its own conditions. -/
import Derived.Test.YtlcgddghildedaaW13p
set_option linter.unusedVariables false
set_option linter.unusedSimpArgs false
open Go Go.Proofs Go.RowKit PM
namespace X
set_option maxRecDepth 100000
set_option maxHeartbeats 4000000
theorem serial_c {code : List (List Int)} {c0 m0 R0 : List Int} {n0 : Int} {fin : Int × List Int × List Int} {w : World} {cb co ccap : Nat} {kv ov rv fc fm : Value} (hR : Run code c0 0 R0 c0 [] fin)
    (hl : code.length ≤ 100) (hR0 : R0.length = 4) (hc0 : c0.length = 8) (hm0 : m0.length = 8)
    (hcode : ∀ i j, i < code.length → j < 4 → w.cell? ⟨cb, co + (i * 4 + j), none⟩ = some (.int .i64 (opG code i j))) (hcb : cb < w.heap.size) (hca : ArrV cx w (fun b => b < w.heap.size) (.vecs 312 4 code) (.slice (some ⟨cb, co, none⟩) code.length ccap))
    (har : IArg w rv R0) (hac : IArg w fc c0) (ham : IArg w fm m0) :
    Calls Try.prog 240 #[.slice (some ⟨cb, co, none⟩) code.length ccap, kv, ov, rv, .agg #[fc, fm, .int .i64 n0]] w fun e w' => ∃ rv' cv' mv', e = .returned (.agg #[.int .i64 fin.1, rv', cv', mv', .int .i64 n0]) ∧ Below w.heap.size w w' ∧
      Sep w' w.heap.size [(rv', fin.2.1), (cv', fin.2.2), (mv', m0)] := by
  obtain ⟨W2, eW2⟩ : ∃ X, X = (w.alloc (Obj.cells #[fc, fm, Value.int IntKind.i64 n0] 135)).alloc (Obj.cells #[Value.int IntKind.i64 0, Value.slice none 0 0, Value.slice none 0 0, Value.slice none 0 0, Value.int IntKind.i64 0] 328) := ⟨_, rfl⟩
  have B2 : Below w.heap.size w W2 := by rw [eW2]; exact ((Below.refl _ w).alloc (Nat.le_refl _) _).alloc (by simp) _
  have k9 : W2.heap[w.heap.size]? = some (Obj.cells #[fc, fm, .int .i64 n0] 135 (0, 0)) := by rw [eW2, heap_alloc2_old]
  have s2 : w.heap.size < W2.heap.size := by rw [eW2]; simp; omega
  have s2e := aside (show W2.heap.size = w.heap.size + 2 by rw [eW2]; simp)
  have c1 := copy_c (w := W2) B2.size (IArg_mono har B2) (by omega)
  have EW2 := aside eW2
  clear eW2
  replace B2 := aside B2
  replace k9 := aside k9
  replace s2 := aside s2
  replace hcode := aside hcode
  replace hca := aside hca
  replace har := aside har
  replace hR0 := aside hR0
  replace hc0 := aside hc0
  replace hm0 := aside hm0
  go_enter Try.func240, Try.ntmps240
  go_wp2_with (first
    | (go_at_call 101; rw [← EW2.out]; refine c1.mono fun e w3 hq => ?_; obtain ⟨u3, rfl, b3, o3, n3⟩ := hq; clear c1; have k93 := (b3.block _ s2.out).trans k9.out; have c90 := cell_at k93 0 _ rfl; have c91 := cell_at k93 1 _ rfl; have c92 := cell_at k93 2 _ rfl; have B3 := B2.out.trans (b3.mono B2.out.size); have cT := things_c (w := w3) (n := n0) B3.size (IArg_mono hac B3) (IArg_mono ham B3) (by have := hc0.out; omega) (by have := hm0.out; omega); clear B3 k93; replace b3 := aside b3; replace o3 := aside o3; replace n3 := aside n3)
    | (go_at_call 293; refine cT.mono fun e w4 hq => ?_; obtain ⟨u1, u2, rfl, b4, o1, o2, ap, n1, n2⟩ := hq; clear cT c90 c91 c92; have ST := aside (start hR hR0.out hc0.out EW2.out b3.out o3.out n3.out b4 o1 o2 ap n1 n2); obtain ⟨g3, k3, rfl⟩ := form_I o3.out (by have := hR0.out; omega); obtain ⟨g1, kc1, rfl⟩ := form_I o1 (by have := hc0.out; omega); obtain ⟨g2, kc2, rfl⟩ := form_I o2 (by have := hm0.out; omega); have s4 := aside (show w.heap.size + 1 < w4.heap.size from (by have h1 := b3.out.size; have h2 := b4.size; have h3 := s2e.out; omega)); clear b4 o1 o2 ap n1 n2)
    )
  go_loopw [3, 12, 13] (fun u3 u12 u13 wr => ∃ (i : Nat) (R C : List Int) (ms : List MkV) (cv mv : Value), u13 = .int .i64 i ∧ RelS code c0 m0 n0 w.heap.size (w.heap.size + 1) w4.heap.size fc fm fin w i R C ms u3 u12 cv mv wr) (fun _ _ u13 _ => 3000 - (RowKit.intOf u13).toNat)
  case atStart => exact ⟨0, _, _, _, _, _, rfl, ST.out⟩
  case round =>
    obtain ⟨i, R, C, ms, cv, mv, rfl, H⟩ := hrel
    clear ST
    have lR := H.lR
    have lC := H.lC
    have i2 := H.i2
    obtain ⟨gr, cr, rfl⟩ := form_I (show OwnI wr _ u3 R from H.sep.own (u3, R) (by simp)) (by omega)
    obtain ⟨gc, kc, rfl⟩ := form_I (show OwnI wr _ cv C from H.sep.own (cv, C) (by simp)) (by omega)
    obtain ⟨gp, kp, rfl⟩ := form_I (show OwnI wr _ mv m0 from H.sep.own (mv, m0) (by simp)) (by have := hm0.out; omega)
    have hru := H.run
    obtain ⟨s, hs⟩ : ∃ s, s = stOf ms := ⟨_, rfl⟩
    rw [← hs] at hru
    replace lR := aside lR
    replace lC := aside lC
    replace hs := aside hs
    replace H := aside H
    have box : ∀ o : Obj, Below wr.heap.size wr (wr.alloc o) := fun o => (Below.refl _ wr).alloc (Nat.le_refl _) _
    replace box := aside box
    have op : i < code.length → wr.cell? ⟨cb, co + i * 4, none⟩ = some (.int .i64 (opG code i 0)) ∧ wr.cell? ⟨cb, co + i * 4 + 1, none⟩ = some (.int .i64 (opG code i 1)) ∧ wr.cell? ⟨cb, co + i * 4 + 2, none⟩ = some (.int .i64 (opG code i 2)) ∧ wr.cell? ⟨cb, co + i * 4 + 3, none⟩ = some (.int .i64 (opG code i 3)) := fun hi => by
      have q0 := (H.out.bel.cell (p := ⟨cb, co + (i * 4 + 0), none⟩) hcb).trans (hcode.out i 0 hi (by omega))
      have q1 := (H.out.bel.cell (p := ⟨cb, co + (i * 4 + 1), none⟩) hcb).trans (hcode.out i 1 hi (by omega))
      have q2 := (H.out.bel.cell (p := ⟨cb, co + (i * 4 + 2), none⟩) hcb).trans (hcode.out i 2 hi (by omega))
      have q3 := (H.out.bel.cell (p := ⟨cb, co + (i * 4 + 3), none⟩) hcb).trans (hcode.out i 3 hi (by omega))
      rw [← Nat.add_assoc] at q1 q2 q3
      exact ⟨q0, q1, q2, q3⟩
    replace op := aside op
    obtain ⟨Wo, eWo⟩ : ∃ X, X = wr.alloc (Obj.cells #[Value.int .i64 (opG code i 0), Value.int .i64 (opG code i 1), Value.int .i64 (opG code i 2), Value.int .i64 (opG code i 3)] 312) := ⟨_, rfl⟩
    have Bo : Below wr.heap.size wr Wo := by rw [eWo]; exact box.out _
    have oR : OwnI Wo w.heap.size (.slice (some ⟨gr, 0, none⟩) R.length cr) R := (show OwnI wr _ _ R from H.out.sep.own (_, R) (List.mem_cons_self ..)).move fun b hb => Bo.block b ((H.out.sep.own (_, R) (List.mem_cons_self ..)).blk hb).2.1
    replace Bo := aside Bo
    replace oR := aside oR
    have EWo := aside eWo
    clear eWo
    cases hru with
    | stop hle =>
      have d0 := cell_at H.out.h11 0 _ rfl
      have d1 := cell_at H.out.h11 1 _ rfl
      have d2 := cell_at H.out.h11 2 _ rfl
      have e0 := cell_at H.out.h10 0 _ rfl
      have e1 := cell_at H.out.h10 1 _ rfl
      have e2 := cell_at H.out.h10 2 _ rfl
      have e3 := cell_at H.out.h10 3 _ rfl
      have e4 := cell_at H.out.h10 4 _ rfl
      have fz : ∀ j, wr.frozen? ⟨w.heap.size + 1, j, none⟩ = false := fun j => by simp [World.frozen?, H.out.h10]
      go_wp2
      have g5 := set5 (.int .i64 1) (.slice (some ⟨gr, 0, none⟩) R.length cr) (.slice (some ⟨gc, 0, none⟩) C.length kc) (.slice (some ⟨gp, 0, none⟩) m0.length kp) (.int .i64 n0) H.out.h10
      have r0 := cell_at g5 0 _ rfl
      have r1 := cell_at g5 1 _ rfl
      have r2 := cell_at g5 2 _ rfl
      have r3 := cell_at g5 3 _ rfl
      have r4 := cell_at g5 4 _ rfl
      have fin5 := last5 (.int .i64 1) (.slice (some ⟨gr, 0, none⟩) R.length cr) (.slice (some ⟨gc, 0, none⟩) C.length kc) (.slice (some ⟨gp, 0, none⟩) m0.length kp) (.int .i64 n0) (Nat.le_succ _) H.out.bel (H.out.sep.sub (h3 ms)) (fun x hx hb => (H.out.ne ((h3 ms).subset hx) hb).2.1 rfl)
      exact bodyPost_ret (v := .agg #[.int .i64 1, .slice (some ⟨gr, 0, none⟩) R.length cr, .slice (some ⟨gc, 0, none⟩) C.length kc, .slice (some ⟨gp, 0, none⟩) m0.length kp, .int .i64 n0]) (by simp [results, Try.results240, go_sem, r0, r1, r2, r3, r4]) rfl ⟨_, _, _, rfl, fin5.1, fin5.2⟩
    | @calc_ _ _ _ R' _ t _ hi kk1 kk2 hk hlen hrun =>
      obtain ⟨q0, q1, q2, q3⟩ := op.out hi
      have cK := calc_c (w := Wo) (lo := w.heap.size) (Nat.le_trans H.out.bel.size Bo.out.size) oR.out.arg hk
      replace hrun := aside hrun
      replace hlen := aside hlen
      clear hk
      go_wp2_with (first
        | (go_at_call 294; rw [← EWo.out]; refine cK.mono fun e w5 hq => ?_; obtain ⟨v', rfl, b5, o5, n5⟩ := hq; have H5 := aside (H.out.calc (Bo.out.trans (b5.mono Bo.out.size)) o5 (fun b hb => Nat.le_trans Bo.out.size (n5 b hb)) hlen.out (by omega) (by rw [← hs.out]; exact hrun.out)); clear b5 o5 n5)
        )
      all_goals
        go_roundw
        case rel => exact ⟨i + 1, R', C, ms, _, _, by go_num, H5.out⟩
        case measure => simp [RowKit.intOf]; omega
    | @skip _ x y _ _ _ _ hi hk ha hx hb hy hrun =>
      obtain ⟨q0, q1, q2, q3⟩ := op.out hi
      rw [hk] at q0
      rw [ha] at q1
      rw [hb] at q2
      have rc := (oR.out.cell rfl hx).2.1
      have ee := EWo.out
      rw [hk, ha, hb] at ee
      rw [ee] at rc
      clear ee
      have hst := hs.out
      have hrun0 : R.getD x 0 = 0 → Run code c0 (i + y + 1) R C (stOf ms) fin := fun e => by have h := hrun; rw [if_pos e, hst] at h; exact h
      have hrun1 : R.getD x 0 ≠ 0 → Run code c0 (i + 1) R C (stOf ms) fin := fun e => by have h := hrun; rw [if_neg e, hst] at h; exact h
      replace hrun0 := aside hrun0
      replace hrun1 := aside hrun1
      clear hrun hst
      obtain ⟨rx, hrx⟩ : ∃ z, z = R.getD x 0 := ⟨_, rfl⟩
      rw [← hrx] at rc
      replace hrx := aside hrx
      go_wp2
      · have e0 : rx = 0 := by simpa using (by assumption : (rx == 0) = true)
        go_roundw
        case rel => exact ⟨i + y + 1, R, C, ms, _, _, by go_num, H.out.next (box.out _) (by omega) (by omega) (hrun0.out (hrx.out ▸ e0))⟩
        case measure => simp [RowKit.intOf]; omega
      · have e0 : ¬ rx = 0 := by simpa using (by assumption : (rx == 0) = false)
        go_roundw
        case rel => exact ⟨i + 1, R, C, ms, _, _, by go_num, H.out.next (box.out _) (by omega) (by omega) (hrun1.out fun e => e0 (hrx.out.trans e))⟩
        case measure => simp [RowKit.intOf]; omega
    | @read _ x y _ _ _ _ hi hk ha hx hb hy hrun =>
      obtain ⟨q0, q1, q2, q3⟩ := op.out hi
      rw [hk] at q0
      rw [ha] at q1
      rw [hb] at q2
      have ee := EWo.out
      rw [hk, ha, hb] at ee
      have Ho := H.out.next Bo.out (Nat.le_refl i) (by omega) H.out.run
      have sR := (show OwnI Wo _ _ R from Ho.sep.own (_, R) (List.mem_cons_self ..)).cell rfl hx
      have oC := (show OwnI Wo _ _ C from Ho.sep.own (_, C) (List.mem_cons_of_mem _ (List.mem_cons_self ..)))
      have sC := oC.cell rfl hy
      have cT := touch_read (W := Wo) (z := opG code i 3) (gr := gr) (nR := R.length) (cr := cr) hx hy (oR.out.blk rfl).2.1 (cell_at Ho.h11 0 _ rfl) (cell_at Ho.h11 1 _ rfl) (cell_at Ho.h11 2 _ rfl) Ho.sizes.2.2 (oC.blk rfl).2.1 sC.2.1 sR.2.1 sR.2.2
      have hst := hs.out
      rw [hst] at hrun
      have HF := (Ho.setR rfl hx (Nat.le_succ i) (by omega) hrun).next (below_drew (Obj.cells #[Value.int .i64 5, Value.int .i64 (x : Int), Value.int .i64 (y : Int), Value.int .i64 (opG code i 3)] 312)) (Nat.le_refl _) (by omega) hrun
      obtain ⟨vy, hvy⟩ : ∃ z, z = C.getD y 0 := ⟨_, rfl⟩
      rw [← hvy] at cT HF
      replace hvy := aside hvy
      replace HF := aside HF
      replace ee := aside ee
      clear hst hrun Ho sR oC sC
      go_wp2_with (first
        | (go_at_call 296; rw [← ee.out]; refine cT.mono fun e w5 hq => ?_; obtain ⟨rfl, rfl⟩ := hq)
        )
      go_roundw
      case rel => exact ⟨i + 1, _, C, ms, _, _, by go_num, HF.out⟩
      case measure => simp [RowKit.intOf]; omega
    | @write _ x y _ _ _ _ hi hk ha hx hb hy hrun =>
      obtain ⟨q0, q1, q2, q3⟩ := op.out hi
      rw [hk] at q0
      rw [ha] at q1
      rw [hb] at q2
      have ee := EWo.out
      rw [hk, ha, hb] at ee
      have Ho := H.out.next Bo.out (Nat.le_refl i) (by omega) H.out.run
      have sR := (show OwnI Wo _ _ R from Ho.sep.own (_, R) (List.mem_cons_self ..)).cell rfl hy
      have oC := (show OwnI Wo _ _ C from Ho.sep.own (_, C) (List.mem_cons_of_mem _ (List.mem_cons_self ..)))
      have sC := oC.cell rfl hx
      have cT := touch_write (W := Wo) (z := opG code i 3) (gr := gr) (nR := R.length) (cr := cr) hx hy (oR.out.blk rfl).2.1 (cell_at Ho.h11 0 _ rfl) (cell_at Ho.h11 1 _ rfl) (cell_at Ho.h11 2 _ rfl) Ho.sizes.2.2 (oC.blk rfl).2.1 sC.2.1 sR.2.1 sC.2.2
      have hst := hs.out
      rw [hst] at hrun
      have HF := (Ho.setC rfl hx (Nat.le_succ i) (by omega) hrun).next (below_drew (Obj.cells #[Value.int .i64 6, Value.int .i64 (x : Int), Value.int .i64 (y : Int), Value.int .i64 (opG code i 3)] 312)) (Nat.le_refl _) (by omega) hrun
      obtain ⟨vy, hvy⟩ : ∃ z, z = R.getD y 0 := ⟨_, rfl⟩
      rw [← hvy] at cT HF
      replace hvy := aside hvy
      replace HF := aside HF
      replace ee := aside ee
      clear hst hrun Ho sR oC sC
      go_wp2_with (first
        | (go_at_call 296; rw [← ee.out]; refine cT.mono fun e w5 hq => ?_; obtain ⟨rfl, rfl⟩ := hq)
        )
      go_roundw
      case rel => exact ⟨i + 1, R, _, ms, _, _, by go_num, HF.out⟩
      case measure => simp [RowKit.intOf]; omega
    | @abort0 _ _ _ hi hk =>
      obtain ⟨q0, q1, q2, q3⟩ := op.out hi
      rw [hk] at q0
      have ee := EWo.out
      rw [hk] at ee
      have hms : ms = [] := by
        have := hs.out
        cases ms with
        | nil => rfl
        | cons k ms => cases this
      subst hms
      obtain ⟨bm, km, rfl⟩ := own_form H.out.own
      have Ho := H.out.next Bo.out (Nat.le_refl i) (by omega) H.out.run
      have k90 := cell_at Ho.h9 0 _ rfl
      have k91 := cell_at Ho.h9 1 _ rfl
      have k92 := cell_at Ho.h9 2 _ rfl
      rw [ee] at k90 k91 k92
      have cT := things_c (w := Wo) (n := n0) Ho.bel.size (IArg_mono hac Ho.bel) (IArg_mono ham Ho.bel) (by have := hc0.out; omega) (by have := hm0.out; omega)
      replace Ho := aside Ho
      replace ee := aside ee
      go_wp2_with (first
        | (go_at_call 293; rw [← ee.out]; refine cT.mono fun e w5 hq => ?_; obtain ⟨u1, u2, rfl, b5, o1, o2, ap, n1, n2⟩ := hq; obtain ⟨g1', kc1', rfl⟩ := form_I o1 (by have := hc0.out; omega); obtain ⟨g2', kc2', rfl⟩ := form_I o2 (by have := hm0.out; omega); clear cT k90 k91 k92; have H5 := aside (Ho.out.next b5 (Nat.le_refl i) (by omega) Ho.out.run); have e0 := cell_at H5.out.h10 0 _ rfl; have e1 := cell_at H5.out.h10 1 _ rfl; have e2 := cell_at H5.out.h10 2 _ rfl; have e3 := cell_at H5.out.h10 3 _ rfl; have e4 := cell_at H5.out.h10 4 _ rfl; have fz : ∀ j, w5.frozen? ⟨w.heap.size + 1, j, none⟩ = false := (fun j => by simp [World.frozen?, H5.out.h10]); replace b5 := aside b5; replace o1 := aside o1; replace o2 := aside o2; replace ap := aside ap; replace n1 := aside n1; replace n2 := aside n2)
        )
      have g5 := set5 (.int .i64 2) (.slice (some ⟨gr, 0, none⟩) R.length cr) (.slice (some ⟨g1', 0, none⟩) c0.length kc1') (.slice (some ⟨g2', 0, none⟩) m0.length kc2') (.int .i64 n0) H5.out.h10
      have r0 := cell_at g5 0 _ rfl
      have r1 := cell_at g5 1 _ rfl
      have r2 := cell_at g5 2 _ rfl
      have r3 := cell_at g5 3 _ rfl
      have r4 := cell_at g5 4 _ rfl
      have S5 : PM.Sep w5 w.heap.size [(.slice (some ⟨gr, 0, none⟩) R.length cr, R), (.slice (some ⟨g1', 0, none⟩) c0.length kc1', c0), (.slice (some ⟨g2', 0, none⟩) m0.length kc2', m0)] := by
        have oR5 : OwnI w5 w.heap.size (.slice (some ⟨gr, 0, none⟩) R.length cr) R := H5.out.sep.own (_, R) (List.mem_cons_self ..)
        have hlt := (oR.out.blk (b := gr) rfl).2.1
        refine ⟨fun y hy => ?_, List.pairwise_cons.2 ⟨fun y hy b hb1 hb2 => ?_, List.pairwise_cons.2 ⟨fun y hy => by rw [List.mem_singleton] at hy; subst hy; exact ap.out, List.pairwise_singleton _ _⟩⟩⟩
        · rcases List.mem_cons.1 hy with rfl | hy
          · exact oR5
          · rcases List.mem_cons.1 hy with rfl | hy
            · exact o1.out
            · rw [List.mem_singleton] at hy; subst hy; exact o2.out
        · have hb1 : some gr = some b := hb1
          cases hb1
          rcases List.mem_cons.1 hy with rfl | hy
          · have := n1.out _ hb2; omega
          · rw [List.mem_singleton] at hy; subst hy
            have := n2.out _ hb2; omega
      have fin5 := last5 (.int .i64 2) (.slice (some ⟨gr, 0, none⟩) R.length cr) (.slice (some ⟨g1', 0, none⟩) c0.length kc1') (.slice (some ⟨g2', 0, none⟩) m0.length kc2') (.int .i64 n0) (Nat.le_succ _) H5.out.bel S5 (fun y hy hb => by
        obtain ⟨_, _, cur, o⟩ := (S5.own y hy).blk hb
        have := H5.out.h10
        rw [o] at this
        simp at this)
      exact bodyPost_ret (v := .agg #[.int .i64 2, .slice (some ⟨gr, 0, none⟩) R.length cr, .slice (some ⟨g1', 0, none⟩) c0.length kc1', .slice (some ⟨g2', 0, none⟩) m0.length kc2', .int .i64 n0]) (by simp [results, Try.results240, go_sem, r0, r1, r2, r3, r4]) rfl ⟨_, _, _, rfl, fin5.1, fin5.2⟩
    | @end_ _ a x _ _ r c st _ hi hk ha hax hx hrun =>
      obtain ⟨q0, q1, q2, q3⟩ := op.out hi
      rw [hk] at q0
      have ee := EWo.out
      rw [hk] at ee
      obtain ⟨k, ms', rfl⟩ : ∃ k ms', ms = k :: ms' := by
        have := hs.out
        cases ms with
        | nil => cases this
        | cons k ms' => exact ⟨k, ms', rfl⟩
      obtain ⟨ka, ⟨rv1, rl⟩, ⟨cv1, cl⟩, ⟨mv1, ml⟩⟩ := k
      have hst := hs.out
      simp only [stOf, List.map_cons, List.cons.injEq, Prod.mk.injEq] at hst
      obtain ⟨⟨rfl, rfl, rfl⟩, hst⟩ := hst
      have hmk := H.out.mks _ (List.mem_cons_self ..)
      simp only at hmk
      obtain ⟨k1, k2, k3, k4⟩ := hmk
      subst k3
      obtain ⟨ga, la, rfl⟩ := form_I (show OwnI wr _ rv1 r from H.out.sep.own (rv1, r) (by simp [vsOf])) (by omega)
      obtain ⟨gb, lb, rfl⟩ := form_I (show OwnI wr _ cv1 c from H.out.sep.own (cv1, c) (by simp [vsOf])) (by omega)
      obtain ⟨gd, ld, rfl⟩ := form_I (show OwnI wr _ mv1 ml from H.out.sep.own (mv1, ml) (by simp [vsOf])) (by have := hm0.out; omega)
      replace k1 := aside k1
      replace k2 := aside k2
      obtain ⟨gm, km, rfl⟩ := H.out.form12
      have Ho := H.out.next Bo.out (Nat.le_refl i) (by omega) H.out.run
      obtain ⟨t0, t1, t2, t3, t4⟩ := Ho.top rfl
      rw [ee] at t0 t1 t2 t3 t4
      have hml : ms'.length ≤ 99 := by have := H.out.mi; simp only [List.length_cons] at this; omega
      have hkm : ms'.length + 1 ≤ km := by
        rcases H.out.own.2 with ⟨e, _⟩ | ⟨_, _, _, e, _, _, o3, _⟩
        · cases e
        · cases e; exact o3
      obtain ⟨W6, e6⟩ : ∃ X, X = Wo.alloc (Obj.cells #[Value.int .i64 (a : Int), Value.slice (some ⟨ga, 0, none⟩) r.length la, Value.slice (some ⟨gb, 0, none⟩) c.length lb, Value.slice (some ⟨gd, 0, none⟩) ml.length ld, Value.int .i64 n0] 382) := ⟨_, rfl⟩
      have B6 : Below Wo.heap.size Wo W6 := by rw [e6]; exact (Below.refl _ Wo).alloc (Nat.le_refl _) _
      have H6 := Ho.next B6 (Nat.le_refl i) (by omega) Ho.run
      have sR := (show OwnI W6 _ _ R from H6.sep.own (_, R) (List.mem_cons_self ..)).cell rfl hx
      have rR := sR.2.1
      have fR := sR.2.2
      have qa := (H6.bel.cell (p := ⟨cb, co + (a * 4 + 1), none⟩) hcb).trans (hcode.out a 1 ha (by omega))
      rw [hax, ← Nat.add_assoc] at qa
      have HF := (H6.pop (j := 2000) rfl (by omega) (Nat.le_refl _) (Run.stop (by omega))).setR0 rfl hx (j := i + 1) (by have := H.out.mi; simp only [List.length_cons] at this; omega) (by omega) (y := 1) (by rw [hst] at hrun; exact hrun)
      rw [e6, ee] at rR fR qa
      replace HF := aside HF
      replace e6 := aside e6
      replace H6 := aside H6
      clear sR
      replace Ho := aside Ho
      replace ee := aside ee
      go_wp2
      go_roundw
      case rel =>
        have h := HF.out
        rw [e6.out, ee.out] at h
        exact ⟨i + 1, _, C, ms', _, _, by go_num, h⟩
      case measure => simp [RowKit.intOf]; omega
    | @abort _ a x z _ _ r c st _ hi hk ha hax hx hz hiz hz2 hrun =>
      obtain ⟨q0, q1, q2, q3⟩ := op.out hi
      rw [hk] at q0
      have ee := EWo.out
      rw [hk] at ee
      obtain ⟨k, ms', rfl⟩ : ∃ k ms', ms = k :: ms' := by
        have := hs.out
        cases ms with
        | nil => cases this
        | cons k ms' => exact ⟨k, ms', rfl⟩
      obtain ⟨ka, ⟨rv1, rl⟩, ⟨cv1, cl⟩, ⟨mv1, ml⟩⟩ := k
      have hst := hs.out
      simp only [stOf, List.map_cons, List.cons.injEq, Prod.mk.injEq] at hst
      obtain ⟨⟨rfl, rfl, rfl⟩, hst⟩ := hst
      have hmk := H.out.mks _ (List.mem_cons_self ..)
      simp only at hmk
      obtain ⟨k1, k2, k3, k4⟩ := hmk
      subst k3
      obtain ⟨ga, la, rfl⟩ := form_I (show OwnI wr _ rv1 r from H.out.sep.own (rv1, r) (by simp [vsOf])) (by omega)
      obtain ⟨gb, lb, rfl⟩ := form_I (show OwnI wr _ cv1 c from H.out.sep.own (cv1, c) (by simp [vsOf])) (by omega)
      obtain ⟨gd, ld, rfl⟩ := form_I (show OwnI wr _ mv1 ml from H.out.sep.own (mv1, ml) (by simp [vsOf])) (by have := hm0.out; omega)
      replace k1 := aside k1
      replace k2 := aside k2
      obtain ⟨gm, km, rfl⟩ := H.out.form12
      have Ho := H.out.next Bo.out (Nat.le_refl i) (by omega) H.out.run
      obtain ⟨t0, t1, t2, t3, t4⟩ := Ho.top rfl
      rw [ee] at t0 t1 t2 t3 t4
      have hml : ms'.length ≤ 99 := by have := H.out.mi; simp only [List.length_cons] at this; omega
      have hkm : ms'.length + 1 ≤ km := by
        rcases H.out.own.2 with ⟨e, _⟩ | ⟨_, _, _, e, _, _, o3, _⟩
        · cases e
        · cases e; exact o3
      obtain ⟨W6, e6⟩ : ∃ X, X = Wo.alloc (Obj.cells #[Value.int .i64 (a : Int), Value.slice (some ⟨ga, 0, none⟩) r.length la, Value.slice (some ⟨gb, 0, none⟩) c.length lb, Value.slice (some ⟨gd, 0, none⟩) ml.length ld, Value.int .i64 n0] 382) := ⟨_, rfl⟩
      have B6 : Below Wo.heap.size Wo W6 := by rw [e6]; exact (Below.refl _ Wo).alloc (Nat.le_refl _) _
      have H6 := Ho.next B6 (Nat.le_refl i) (by omega) Ho.run
      have or6 := (show OwnI W6 _ _ r from H6.sep.own (.slice (some ⟨ga, 0, none⟩) r.length la, r) (by simp [vsOf]))
      have sR := or6.cell rfl hx
      have rR := sR.2.1
      have fR := sR.2.2
      have bne := (H6.ne (x := (.slice (some ⟨ga, 0, none⟩) r.length la, r)) (by simp [vsOf]) (b := ga) rfl)
      have x0 := cell_at H6.h11 0 _ rfl
      have x1 := cell_at H6.h11 1 _ rfl
      have x2 := cell_at H6.h11 2 _ rfl
      have xf : ∀ j, W6.frozen? ⟨w4.heap.size, j, none⟩ = false := fun j => by simp [World.frozen?, H6.h11]
      have ne1 : ga ≠ w4.heap.size := bne.2.2.1
      have ne2 : cb ≠ w4.heap.size := by have := s4.out; omega
      have ne3 : cb ≠ ga := by have := bne.2.2.2.2; omega
      have qa := (H6.bel.cell (p := ⟨cb, co + (a * 4 + 1), none⟩) hcb).trans (hcode.out a 1 ha (by omega))
      rw [hax, ← Nat.add_assoc] at qa
      have HB := H6.back (fin' := (1, r, c)) (by have := s4.out; omega) ⟨by have := s4.out; omega, by have := s4.out; omega⟩ rfl (j := 2000) (by omega) (Nat.le_refl _) (Run.stop (by omega))
      obtain ⟨W7, e7⟩ : ∃ X, X = (((W6.setCell ⟨w4.heap.size, 0, none⟩ (.slice (some ⟨gb, 0, none⟩) c.length lb)).setCell ⟨w4.heap.size, 1, none⟩ (.slice (some ⟨gd, 0, none⟩) ml.length ld)).setCell ⟨w4.heap.size, 2, none⟩ (.int .i64 n0)).drew := ⟨_, rfl⟩
      have H7 : RelS code c0 ml n0 w.heap.size (w.heap.size + 1) w4.heap.size fc fm (1, r, c) w 2000 r c ms' (.slice (some ⟨ga, 0, none⟩) r.length la) (.slice (some ⟨gm, 0, none⟩) ms'.length km) (.slice (some ⟨gb, 0, none⟩) c.length lb) (.slice (some ⟨gd, 0, none⟩) ml.length ld) W7 := by
        rw [e7]
        exact HB.next ((fun X : World => (⟨rfl, rfl, rfl, Nat.le_refl _, fun _ _ => rfl⟩ : Below X.heap.size X X.drew)) _) (Nat.le_refl _) (Nat.le_refl _) (Run.stop (by omega))
      have b7 : W7.heap[wr.heap.size + 1]? = some (Obj.cells #[Value.int .i64 (a : Int), Value.slice (some ⟨ga, 0, none⟩) r.length la, Value.slice (some ⟨gb, 0, none⟩) c.length lb, Value.slice (some ⟨gd, 0, none⟩) ml.length ld, Value.int .i64 n0] 382 (0, 0)) := by
        have hlt := H.out.sizes.2.2
        have hne : w4.heap.size ≠ wr.heap.size + 1 := by omega
        rw [e7]
        show (((W6.setCell ⟨w4.heap.size, 0, none⟩ _).setCell ⟨w4.heap.size, 1, none⟩ _).setCell ⟨w4.heap.size, 2, none⟩ _).heap[wr.heap.size + 1]? = _
        rw [set_other hne, set_other hne, set_other hne, e6, ee]
        have hsz : (wr.alloc (Obj.cells #[Value.int .i64 10, Value.int .i64 (opG code i 1), Value.int .i64 (opG code i 2), Value.int .i64 (opG code i 3)] 312)).heap.size = wr.heap.size + 1 := by simp
        rw [← hsz]
        exact heap_alloc_new _ _
      have z0 := cell_at b7 0 _ rfl
      have gaw : ga < wr.heap.size := ((show OwnI wr _ (.slice (some ⟨ga, 0, none⟩) r.length la) r from H.out.sep.own (.slice (some ⟨ga, 0, none⟩) r.length la, r) (by simp [vsOf])).blk rfl).2.1
      have z4 := cell_at ((set_other (w := W7) (j := x) (v := Value.int .i64 0) (show ga ≠ wr.heap.size + 1 by omega)).trans b7) 0 _ rfl
      have s7 := (show OwnI W7 _ _ r from H7.sep.own (_, r) (List.mem_cons_self ..)).cell rfl hx
      have z1 := s7.2.1
      have z2 := s7.2.2
      have z3 := (H7.bel.cell (p := ⟨cb, co + (a * 4 + 1), none⟩) hcb).trans (hcode.out a 1 ha (by omega))
      rw [hax, ← Nat.add_assoc] at z3
      have H8 := H7.setR0 rfl hx (y := 0) (j := z + 1) (by have := H.out.mi; simp only [List.length_cons] at this; omega) (by omega) (by rw [hst] at hrun; exact hrun)
      have cE := endof_c (w := W7.setCell ⟨ga, x, none⟩ (.int .i64 0)) (ArrV.mono (fun b hlt => ⟨Nat.lt_of_lt_of_le hlt H8.bel.size, H8.bel.block b hlt⟩) hca.out) hz
      rw [e6, ee] at rR fR qa x0 x1 x2 xf e7
      replace H6 := aside H6
      replace H7 := aside H7
      replace H8 := aside H8
      replace HB := aside HB
      replace b7 := aside b7
      replace e6 := aside e6
      replace e7 := aside e7
      replace Ho := aside Ho
      replace ee := aside ee
      replace or6 := aside or6
      replace bne := aside bne
      replace z0 := aside z0
      replace z1 := aside z1
      replace z2 := aside z2
      replace z3 := aside z3
      replace z4 := aside z4
      clear sR s7
      go_wp2
      go_region
      all_goals
        rw [← e7.out]
        have y0 := z0.out
        have y1 := z1.out
        have y2 := z2.out
        have y3 := z3.out
        have y4 := z4.out
        clear rR fR qa x0 x1 x2 xf
        go_wp2_with (first
          | (go_at_call 295; refine cE.mono fun e w9 hq => ?_; obtain ⟨rfl, b9⟩ := hq; have H9 := aside (H8.out.next b9 (Nat.le_refl _) (by omega) H8.out.run); clear b9)
          )
        go_roundw
        case rel => exact ⟨z + 1, _, c, ms', _, _, by go_num, H9.out⟩
        case measure => simp [RowKit.intOf]; omega
    | @begin_ _ _ _ _ _ hi hk hrun =>
      obtain ⟨q0, q1, q2, q3⟩ := op.out hi
      rw [hk] at q0
      have ee := EWo.out
      rw [hk] at ee
      obtain ⟨i0, hi0, hz0, hz1, hz2⟩ := info_parts infoM
      obtain ⟨bm, km, rfl⟩ := own_form H.out.own
      have hdr : ∀ X : World, Below X.heap.size X X.drew := fun X => ⟨rfl, rfl, rfl, Nat.le_refl _, fun _ _ => rfl⟩
      have Hd := H.out.next (Bo.out.trans ((hdr Wo).mono Bo.out.size)) (Nat.le_refl i) (by omega) H.out.run
      have s0 := cell_at Hd.h11 0 _ rfl
      have s1 := cell_at Hd.h11 1 _ rfl
      have s2' := cell_at Hd.h11 2 _ rfl
      have cC := copy_c (w := Wo.drew) (lo := w.heap.size) Hd.bel.size ((show OwnI Wo.drew _ _ R from Hd.sep.own (_, R) (List.mem_cons_self ..)).arg) (by have := lR.out; omega)
      rw [ee] at s0 s1 s2' cC
      have BD := aside (Bo.out.trans ((hdr Wo).mono Bo.out.size))
      have hrn : Run code c0 (i + 1) R C ((i, R, C) :: stOf ms) fin := by rw [← hs.out]; exact hrun
      replace hrn := aside hrn
      clear hrun
      replace Hd := aside Hd
      replace ee := aside ee
      go_wp2
      go_region_held3 (fun W => W.cell? ⟨w4.heap.size, 0, none⟩ = some (.slice (some ⟨gc, 0, none⟩) C.length kc) ∧ W.cell? ⟨w4.heap.size, 1, none⟩ = some (.slice (some ⟨gp, 0, none⟩) m0.length kp) ∧ W.cell? ⟨w4.heap.size, 2, none⟩ = some (.int .i64 n0)) (first | exact ⟨s0, s1, s2'⟩ | exact ⟨s50, s51, s52⟩ | exact ⟨s60, s61, s62⟩ | exact ⟨s70, s71, s72⟩ | exact ⟨s80, s81, s82⟩) (first
        | (go_at_call 101; refine cC.mono fun e w5 hq => ?_; obtain ⟨r1, rfl, b5, o5, n5⟩ := hq; obtain ⟨gx, kx, rfl⟩ := form_I o5 (by have := lR.out; omega); clear cC; rw [← ee.out] at b5 n5; have H5 := (Hd.out.next b5 (Nat.le_refl i) (by omega) Hd.out.run); have s50 := cell_at H5.h11 0 _ rfl; have s51 := cell_at H5.h11 1 _ rfl; have s52 := cell_at H5.h11 2 _ rfl; have cT := things_c (w := w5) (lo := w.heap.size) (n := n0) H5.bel.size ((show OwnI w5 _ _ C from H5.sep.own (_, C) (List.mem_cons_of_mem _ (List.mem_cons_self ..))).arg) ((show OwnI w5 _ (.slice (some ⟨gp, 0, none⟩) m0.length kp) m0 from H5.sep.own (_, m0) (by simp)).arg) (by have := lC.out; omega) (by have := hm0.out; omega); replace H5 := aside H5; replace b5 := aside b5; replace o5 := aside o5; replace n5 := aside n5)
        | (go_at_call 293; refine cT.mono fun e w6 hq => ?_; obtain ⟨u1, u2, rfl, b6, o61, o62, ap, n61, n62⟩ := hq; clear cT; obtain ⟨gy, ky, rfl⟩ := form_I o61 (by have := lC.out; omega); obtain ⟨gz, kz, rfl⟩ := form_I o62 (by have := hm0.out; omega); have H6 := (H5.out.next b6 (Nat.le_refl i) (by omega) H5.out.run); have s60 := cell_at H6.h11 0 _ rfl; have s61 := cell_at H6.h11 1 _ rfl; have s62 := cell_at H6.h11 2 _ rfl; have b7 := (Below.refl w6.heap.size w6).alloc (Nat.le_refl _) (Obj.cells #[Value.int .i64 (i : Int), Value.slice (some ⟨gx, 0, none⟩) R.length kx, Value.slice (some ⟨gy, 0, none⟩) C.length ky, Value.slice (some ⟨gz, 0, none⟩) m0.length kz, Value.int .i64 n0] 382); have H7 := (H6.next b7 (Nat.le_refl i) (by omega) H6.run); have s70 := cell_at H7.h11 0 _ rfl; have s71 := cell_at H7.h11 1 _ rfl; have s72 := cell_at H7.h11 2 _ rfl; have N7 := aside (lay5 w6 382 (Value.int .i64 (i : Int)) (Value.slice (some ⟨gx, 0, none⟩) R.length kx) (Value.slice (some ⟨gy, 0, none⟩) C.length ky) (Value.slice (some ⟨gz, 0, none⟩) m0.length kz) (Value.int .i64 n0)); have B6 := b6.trans (b7.mono b6.size); have BW := aside ((BD.out.trans (b5.out.mono BD.out.size)).trans (B6.mono (BD.out.trans (b5.out.mono BD.out.size)).size)); have P1 := aside (o5.out.move fun b hb => B6.block b (o5.out.blk hb).2.1); have P2 := aside (o61.move fun b hb => b7.block b (o61.blk hb).2.1); have P3 := aside (o62.move fun b hb => b7.block b (o62.blk hb).2.1); have Q1 := aside (fun b hb => Nat.le_trans BD.out.size (n5.out b hb)); have Q2 := aside (fun b hb => Nat.le_trans (BD.out.trans (b5.out.mono BD.out.size)).size (n61 b hb)); have Q3 := aside (fun b hb => Nat.le_trans (BD.out.trans (b5.out.mono BD.out.size)).size (n62 b hb)); have A1 : Apart (Value.slice (some ⟨gx, 0, none⟩) R.length kx, R) (Value.slice (some ⟨gy, 0, none⟩) C.length ky, C) := (fun b h1 h2 => by (have := (o5.out.blk h1).2.1; have := n61 b h2; omega)); have A2 : Apart (Value.slice (some ⟨gx, 0, none⟩) R.length kx, R) (Value.slice (some ⟨gz, 0, none⟩) m0.length kz, m0) := (fun b h1 h2 => by (have := (o5.out.blk h1).2.1; have := n62 b h2; omega)); replace A1 := aside A1; replace A2 := aside A2; replace H6 := aside H6; replace H7 := aside H7; replace b6 := aside b6; replace b7 := aside b7; replace o61 := aside o61; replace o62 := aside o62; replace ap := aside ap; replace n61 := aside n61; replace n62 := aside n62)
        | (refine step_append_lies _ rfl (.tmp 66) (.tmp 73) 380 rfl w.heap.size 382 i0 (.agg #[.int .i64 0, .slice none 0 0, .slice none 0 0, .slice none 0 0, .int .i64 0]) 5 88 Try.underlying380 hi0 hz0 hz1 hz2 rfl (by decide) (.slice bm ms.length km) ms.length (xsOf n0 ms.reverse) rfl (by have := H7.out.own; exact this) ⟨w6.heap.size, 0, none⟩ 1 1 [Value.int .i64 (i : Int), Value.slice (some ⟨gx, 0, none⟩) R.length kx, Value.slice (some ⟨gy, 0, none⟩) C.length ky, Value.slice (some ⟨gz, 0, none⟩) m0.length kz, Value.int .i64 n0] rfl rfl N7.out (by intro u hu; simp at hu; rcases hu with rfl | rfl | rfl | rfl | rfl <;> rfl) (by omega) (by unfold maxLen; have := H.out.mi; omega) (by have := H.out.mi; omega) H7.out.bel.size _ rfl ?_; intro g8 k8 w8 o8 g8' a8 lt8; have H8 := aside (H.out.push BW.out P1.out P2.out P3.out Q1.out Q2.out Q3.out A1.out A2.out ap.out o8 g8' hi (by omega) hrn.out); have s80 := cell_at H8.out.h11 0 _ rfl; have s81 := cell_at H8.out.h11 1 _ rfl; have s82 := cell_at H8.out.h11 2 _ rfl; clear o8 g8' a8)
        )
      go_wp2
      go_roundw
      case rel => exact ⟨i + 1, R, C, _ :: ms, _, _, by go_num, H8.out⟩
      case measure => simp [RowKit.intOf]; omega
end X
