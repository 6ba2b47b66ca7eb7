/- Models of the functions, or plain laws about them; each theorem states its own conditions. -/
import Derived.Test.YtnjfchckceaiiaaDS2
import Derived.Test.YtnjfchckceaiiaaQM4
set_option linter.unusedVariables false
set_option linter.unusedSimpArgs false
open Go.Proofs
namespace X
open PM Go

theorem fresh_l (code : List Int) (salt : Int) : ∀ (m N i : Nat) (o : List Int), i + m = 601 → m < N → o.length ≤ i + 1 → ∃ o', o'.length ≤ 602 ∧ ∀ kx, laws_fresh_l0 std N code salt (i : Int) o kx = kx o'
  | m, 0, i, o, h1, h2, h3 => by omega
  | 0, N + 1, i, o, h1, h2, h3 => by
    refine ⟨o, by omega, fun kx => ?_⟩
    have e : std.lt (i : Int) 600 = false := by rw [std_lt]; exact decide_eq_false (by omega)
    unfold laws_fresh_l0
    rw [e]
    cases std.lt (i : Int) (std.ilen code) <;> rfl
  | m + 1, N + 1, i, o, h1, h2, h3 => by
    by_cases c1 : i < code.length
    · by_cases c2 : i < 600
      · have e1 : std.lt (i : Int) (std.ilen code) = true := by rw [std_ilen]; exact lt_nat_t c1
        have e2 : std.lt (i : Int) 600 = true := by rw [std_lt]; exact decide_eq_true (by omega)
        have e3 : std.inb (i : Int) (std.ilen code) = true := by rw [std_ilen]; exact inb_nat_t c1
        have e4 : std.nz 7 = true := rfl
        have e5 : ∀ x : Int, std.room (std.ilen o) (std.ilen [x]) = true := fun x => room_s (a := o.length) (b := 1) (by omega)
        generalize hx : std.wrap .u8 (std.add .i64 (std.mul .i64 (std.wrap .i64 (std.iget code (i : Int))) 3) (std.mul .i64 salt (std.add .i64 (std.rem .i64 (i : Int) 7) 1))) = x
        obtain ⟨o', q1, q2⟩ := fresh_l code salt m N (i + 1) (std.iapp o [x]) (by omega) (by omega) (by rw [std_iapp, List.length_append, List.length_singleton]; omega)
        exact ⟨o', q1, fun kx => by simp only [laws_fresh_l0, e1, e2, e3, e4, bt, hx, e5, add1 (i := i) (by omega), q2]⟩
      · refine ⟨o, by omega, fun kx => ?_⟩
        have e : std.lt (i : Int) 600 = false := by rw [std_lt]; exact decide_eq_false (by omega)
        unfold laws_fresh_l0
        rw [e]
        cases std.lt (i : Int) (std.ilen code) <;> rfl
    · refine ⟨o, by omega, fun kx => ?_⟩
      have e : std.lt (i : Int) (std.ilen code) = false := by rw [std_ilen]; exact lt_nat_f (by omega)
      unfold laws_fresh_l0
      rw [e]; rfl
theorem fresh_dr (code : List Int) (salt : Int) : ∃ o, o.length ≤ 1048576 ∧ ∀ k, laws_fresh std code salt k = k o := by
  unfold laws_fresh laws_fresh_f
  generalize hN : std.fuel = N
  have hN : 4294967296 = N := hN
  obtain ⟨o, q1, q2⟩ := fresh_l code salt 601 N 0 [std.wrap .u8 salt] (by omega) (by omega) (by simp)
  exact ⟨o, by omega, fun k => q2 _⟩
theorem Undone_l (c6 : laws_big_T) (c10 : laws_sameInts_T) (c11 : impl_MapOf_T) (c18 : spec_ShelfOk_T) (c25 : impl_UndoOk_T) (c23 : spec_BoostDo_T) (c24 : impl_UndoAll_T) (code r : List Int) (hr : r.length ≤ 4) (s0 : List Int) (c0 u0 u1 u2 : Int) :
    ∀ (m N i : Nat) (lx : List Int) (cx : Int) (us : List (List Int)), i + m = 6 → m < N → ShOk lx cx → Back us lx cx s0 c0 → us.length ≤ i + 1 → ∃ lx' cx' us', ShOk lx' cx' ∧ Back us' lx' cx' s0 c0 ∧ us'.length ≤ 7 ∧
      ∀ kx, laws_FnUndone_l0 std c6 c10 c11 (spec_DrawBoostDo std) (laws_fresh std) c18 (impl_BoostDo std) c25 c23 c24 N code r (i : Int) s0 c0 lx cx u0 u1 u2 us kx = kx s0 c0 lx' cx' u0 u1 u2 us'
  | m, 0, i, lx, cx, us, h1, h2, h3, h4, h5 => by omega
  | 0, N + 1, i, lx, cx, us, h1, h2, h3, h4, h5 => by
    have e : std.lt (i : Int) 6 = false := by rw [std_lt]; exact decide_eq_false (by omega)
    exact ⟨lx, cx, us, h3, h4, by omega, fun kx => by simp only [laws_FnUndone_l0, e, bf]⟩
  | m + 1, N + 1, i, lx, cx, us, h1, h2, h3, h4, h5 => by
    have e : std.lt (i : Int) 6 = true := by rw [std_lt]; exact decide_eq_true (by omega)
    obtain ⟨fc, f1, f2⟩ := fresh_dr code (i : Int)
    obtain ⟨l2, c2, kd, a, b, d, r2, d1, d2, d3, d4⟩ := DrawBoostDo_dr fc f1
    have hv := (BoostDo_val lx cx kd a b d r (by rw [h3.1.1]; omega) (by omega)).2
    have hbu := @boost_undo lx cx kd a b d r
    have hbs := @back_snoc us lx s0 cx c0 kd a b d r h4
    generalize boostDo lx cx kd a b d r = q at hv hbu hbs
    obtain ⟨q1, q2, q3, q4, q5, q6, q7⟩ := q
    cases q7
    · obtain ⟨lx', cx', us', r1, r2, r3, r4⟩ := Undone_l c6 c10 c11 c18 c25 c23 c24 code r hr s0 c0 u0 u1 u2 m N (i + 1) lx cx us (by omega) (by omega) h3 h4 (by omega)
      exact ⟨lx', cx', us', r1, r2, r3, fun kx => by simp only [laws_FnUndone_l0, e, bt, f2, d4, hv, bf, add1 (i := i) (by omega), r4]⟩
    · obtain ⟨b1, _, _, _⟩ := hbu rfl
      have b2 := hbs rfl
      have er : ∀ x : List Int, std.room (std.vlen us) (std.vlen [x]) = true := fun x => room_s (a := us.length) (b := 1) (by omega)
      obtain ⟨lx', cx', us', r1, r2, r3, r4⟩ := Undone_l c6 c10 c11 c18 c25 c23 c24 code r hr s0 c0 u0 u1 u2 m N (i + 1) q1 q2 (us ++ [[q4, q5, q6]]) (by omega) (by omega) b1 b2 (by rw [List.length_append, List.length_singleton]; omega)
      exact ⟨lx', cx', us', r1, r2, r3, fun kx => by simp only [laws_FnUndone_l0, e, bt, f2, d4, hv, er, std_vapp, add1 (i := i) (by omega), r4]⟩
theorem FnUndone_true (code : List Int) (f : FitArr cx (.ints 5 .u8 code)) (k : Bool → R) : laws_FnUndone std code k = k true := by
  unfold laws_FnUndone laws_FnUndone_f
  simp only [big_val]
  by_cases hb : 1048576 < code.length
  · have e : std.lt 1048576 (std.ilen code) = true := by rw [std_lt, std_ilen]; exact decide_eq_true (by omega)
    simp only [e, bt]
  · have e : std.lt 1048576 (std.ilen code) = false := by rw [std_lt, std_ilen]; exact decide_eq_false (by omega)
    obtain ⟨l, c, kd, a, b, d, r, d1, d2, d3, d4⟩ := DrawBoostDo_dr code (by omega)
    obtain ⟨v1, v2⟩ := BoostDo_val l c kd a b d r (by omega) (by omega)
    have bb : ∀ x : Bool, std.not (std.beq x x) = false := fun x => by cases x <;> rfl
    simp only [e, bf, d4, v1, v2, bb]
    generalize hN : std.fuel = N
    have hN : 4294967296 = N := hN
    cases hq : (boostDo l c kd a b d r).2.2.2.2.2.2
    · have hq := boost_false hq
      rw [hq]
      rfl
    · obtain ⟨b1, b2, b3, _⟩ := boost_undo hq
      obtain ⟨t1, t2, t3, t4⟩ := boost_true hq
      have b5 := back_snoc (back_nil (l := l) (c := c)) hq
      generalize boostDo l c kd a b d r = q at b1 b2 b3 b5
      obtain ⟨q1, q2, q3, q4, q5, q6, q7⟩ := q
      obtain ⟨lx', cx', us', r1, r2, r3, r4⟩ := Undone_l (laws_big std) (laws_sameInts std) (impl_MapOf std) (spec_ShelfOk std) (impl_UndoOk std) (spec_BoostDo std) (impl_UndoAll std) code r (by omega) l c q4 q5 q6 6 N 0 q1 q2 [[q4, q5, q6]] rfl (by omega) b1 b5 (by simp)
      have nt : std.not true = false := rfl
      simp only [nt, bf]
      have hL := r2 lx' cx' (Like.refl r1)
      have e0 : ((0 : Nat) : Int) = 0 := rfl
      rw [e0] at r4
      simp only [r4, UndoAll_eq lx' cx' us' (by rw [r1.1.1]; omega) (by omega), ShelfOk_val, shelfOk_iff.2 r1, bt]
      generalize undoAll lx' cx' us' = z at hL
      have eq : std.eq z.2 c = true := by rw [hL.2.2.1]; simp
      have hm := hL.map
      simp only [shelfOk_iff.2 hL.1, bt, eq, MapOf_eq, hm, sameInts_refl (mapOf l) (by have := mapOf_length l; omega), UndoOk_val]
      rw [b3]
end X
