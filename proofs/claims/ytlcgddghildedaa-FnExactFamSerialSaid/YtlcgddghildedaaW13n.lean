/- Models of the functions, or plain laws about them; each theorem states its own conditions. -/
import Derived.Test.YtlcgddghildedaaW13p
set_option linter.unusedVariables false
set_option linter.unusedSimpArgs false
open Go Go.Proofs Go.RowKit PM
namespace X
set_option maxRecDepth 100000
set_option maxHeartbeats 4000000
theorem serial_nil {bs0 : Option Addr} {ccap : Nat} {code : List (List Int)} {c0 m0 R0 : List Int} {n0 : Int} {fin : Int × List Int × List Int} {w : World} {kv ov rv fc fm : Value} (hR : Run code c0 0 R0 c0 [] fin)
    (hl : code.length = 0) (hR0 : R0.length = 4) (hc0 : c0.length = 8) (hm0 : m0.length = 8)
    (har : IArg w rv R0) (hac : IArg w fc c0) (ham : IArg w fm m0) :
    Calls Try.prog 240 #[.slice bs0 0 ccap, kv, ov, rv, .agg #[fc, fm, .int .i64 n0]] w fun e w' => ∃ rv' cv' mv', e = .returned (.agg #[.int .i64 fin.1, rv', cv', mv', .int .i64 n0]) ∧ Below w.heap.size w w' ∧
      Sep w' w.heap.size [(rv', fin.2.1), (cv', fin.2.2), (mv', m0)] := by
  obtain ⟨W2, eW2⟩ : ∃ X, X = (w.alloc (Obj.cells #[fc, fm, Value.int IntKind.i64 n0] 135)).alloc (Obj.cells #[Value.int IntKind.i64 0, Value.slice none 0 0, Value.slice none 0 0, Value.slice none 0 0, Value.int IntKind.i64 0] 328) := ⟨_, rfl⟩
  have B2 : Below w.heap.size w W2 := by rw [eW2]; exact ((Below.refl _ w).alloc (Nat.le_refl _) _).alloc (by simp) _
  have k9 : W2.heap[w.heap.size]? = some (Obj.cells #[fc, fm, .int .i64 n0] 135 (0, 0)) := by rw [eW2, heap_alloc2_old]
  have s2 : w.heap.size < W2.heap.size := by rw [eW2]; simp; omega
  have s2e := aside (show W2.heap.size = w.heap.size + 2 by rw [eW2]; simp)
  have c1 := copy_c (w := W2) B2.size (IArg_mono har B2) (by omega)
  have EW2 := aside eW2
  clear eW2
  replace B2 := aside B2
  replace k9 := aside k9
  replace s2 := aside s2
  replace har := aside har
  replace hR0 := aside hR0
  replace hc0 := aside hc0
  replace hm0 := aside hm0
  go_enter Try.func240, Try.ntmps240
  go_wp2_with (first
    | (go_at_call 101; rw [← EW2.out]; refine c1.mono fun e w3 hq => ?_; obtain ⟨u3, rfl, b3, o3, n3⟩ := hq; clear c1; have k93 := (b3.block _ s2.out).trans k9.out; have c90 := cell_at k93 0 _ rfl; have c91 := cell_at k93 1 _ rfl; have c92 := cell_at k93 2 _ rfl; have B3 := B2.out.trans (b3.mono B2.out.size); have cT := things_c (w := w3) (n := n0) B3.size (IArg_mono hac B3) (IArg_mono ham B3) (by have := hc0.out; omega) (by have := hm0.out; omega); clear B3 k93; replace b3 := aside b3; replace o3 := aside o3; replace n3 := aside n3)
    | (go_at_call 293; refine cT.mono fun e w4 hq => ?_; obtain ⟨u1, u2, rfl, b4, o1, o2, ap, n1, n2⟩ := hq; clear cT c90 c91 c92; have ST := aside (start hR hR0.out hc0.out EW2.out b3.out o3.out n3.out b4 o1 o2 ap n1 n2); obtain ⟨g3, k3, rfl⟩ := form_I o3.out (by have := hR0.out; omega); obtain ⟨g1, kc1, rfl⟩ := form_I o1 (by have := hc0.out; omega); obtain ⟨g2, kc2, rfl⟩ := form_I o2 (by have := hm0.out; omega); have s4 := aside (show w.heap.size + 1 < w4.heap.size from (by have h1 := b3.out.size; have h2 := b4.size; have h3 := s2e.out; omega)); clear b4 o1 o2 ap n1 n2)
    )
  go_loopw [3, 12, 13] (fun u3 u12 u13 wr => ∃ (i : Nat) (R C : List Int) (ms : List MkV) (cv mv : Value), u13 = .int .i64 i ∧ RelS code c0 m0 n0 w.heap.size (w.heap.size + 1) w4.heap.size fc fm fin w i R C ms u3 u12 cv mv wr) (fun _ _ u13 _ => 3000 - (RowKit.intOf u13).toNat)
  case atStart => exact ⟨0, _, _, _, _, _, rfl, ST.out⟩
  case round =>
    obtain ⟨i, R, C, ms, cv, mv, rfl, H⟩ := hrel
    clear ST
    have lR := H.lR
    have lC := H.lC
    have i2 := H.i2
    obtain ⟨gr, cr, rfl⟩ := form_I (show OwnI wr _ u3 R from H.sep.own (u3, R) (by simp)) (by omega)
    obtain ⟨gc, kc, rfl⟩ := form_I (show OwnI wr _ cv C from H.sep.own (cv, C) (by simp)) (by omega)
    obtain ⟨gp, kp, rfl⟩ := form_I (show OwnI wr _ mv m0 from H.sep.own (mv, m0) (by simp)) (by have := hm0.out; omega)
    have hru := H.run
    obtain ⟨s, hs⟩ : ∃ s, s = stOf ms := ⟨_, rfl⟩
    rw [← hs] at hru
    replace lR := aside lR
    replace lC := aside lC
    replace hs := aside hs
    replace H := aside H
    have box : ∀ o : Obj, Below wr.heap.size wr (wr.alloc o) := fun o => (Below.refl _ wr).alloc (Nat.le_refl _) _
    replace box := aside box
    have hl := aside hl
    obtain ⟨Wo, eWo⟩ : ∃ X, X = wr.alloc (Obj.cells #[Value.int .i64 (opG code i 0), Value.int .i64 (opG code i 1), Value.int .i64 (opG code i 2), Value.int .i64 (opG code i 3)] 312) := ⟨_, rfl⟩
    have Bo : Below wr.heap.size wr Wo := by rw [eWo]; exact box.out _
    have oR : OwnI Wo w.heap.size (.slice (some ⟨gr, 0, none⟩) R.length cr) R := (show OwnI wr _ _ R from H.out.sep.own (_, R) (List.mem_cons_self ..)).move fun b hb => Bo.block b ((H.out.sep.own (_, R) (List.mem_cons_self ..)).blk hb).2.1
    replace Bo := aside Bo
    replace oR := aside oR
    have EWo := aside eWo
    clear eWo
    rcases hru with hle | ⟨hi, _⟩ | ⟨hi, _⟩ | ⟨hi, _⟩ | ⟨hi, _⟩ | ⟨hi, _⟩ | ⟨hi, _⟩ | ⟨hi, _⟩ | ⟨hi, _⟩
    case stop =>
      have d0 := cell_at H.out.h11 0 _ rfl
      have d1 := cell_at H.out.h11 1 _ rfl
      have d2 := cell_at H.out.h11 2 _ rfl
      have e0 := cell_at H.out.h10 0 _ rfl
      have e1 := cell_at H.out.h10 1 _ rfl
      have e2 := cell_at H.out.h10 2 _ rfl
      have e3 := cell_at H.out.h10 3 _ rfl
      have e4 := cell_at H.out.h10 4 _ rfl
      have fz : ∀ j, wr.frozen? ⟨w.heap.size + 1, j, none⟩ = false := fun j => by simp [World.frozen?, H.out.h10]
      go_wp2
      have g5 := set5 (.int .i64 1) (.slice (some ⟨gr, 0, none⟩) R.length cr) (.slice (some ⟨gc, 0, none⟩) C.length kc) (.slice (some ⟨gp, 0, none⟩) m0.length kp) (.int .i64 n0) H.out.h10
      have r0 := cell_at g5 0 _ rfl
      have r1 := cell_at g5 1 _ rfl
      have r2 := cell_at g5 2 _ rfl
      have r3 := cell_at g5 3 _ rfl
      have r4 := cell_at g5 4 _ rfl
      have fin5 := last5 (.int .i64 1) (.slice (some ⟨gr, 0, none⟩) R.length cr) (.slice (some ⟨gc, 0, none⟩) C.length kc) (.slice (some ⟨gp, 0, none⟩) m0.length kp) (.int .i64 n0) (Nat.le_succ _) H.out.bel (H.out.sep.sub (h3 ms)) (fun x hx hb => (H.out.ne ((h3 ms).subset hx) hb).2.1 rfl)
      exact bodyPost_ret (v := .agg #[.int .i64 1, .slice (some ⟨gr, 0, none⟩) R.length cr, .slice (some ⟨gc, 0, none⟩) C.length kc, .slice (some ⟨gp, 0, none⟩) m0.length kp, .int .i64 n0]) (by simp [results, Try.results240, go_sem, r0, r1, r2, r3, r4]) rfl ⟨_, _, _, rfl, fin5.1, fin5.2⟩
    all_goals (have := hl.out; omega)
end X
