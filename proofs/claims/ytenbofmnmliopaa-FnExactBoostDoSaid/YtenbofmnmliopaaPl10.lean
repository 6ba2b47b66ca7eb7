/- Models of the functions, or plain laws about them; each theorem states its own conditions. -/
import Derived.Test.YtenbofmnmliopaaPl9
set_option linter.unusedVariables false
set_option linter.unusedSimpArgs false
open Go.Proofs
namespace X
open PM Go

noncomputable def undoOk (a b c : Int) : Bool := (det_UndoOk a b c).choose
theorem UndoOk_val (a b c : Int) (k : Bool → R) : spec_UndoOk std a b c k = k (undoOk a b c) := (det_UndoOk a b c).choose_spec k
noncomputable def undoOne (l : List Int) (c kd key v : Int) : List Int × Int × Bool :=
  bif shelfOk l c then (bif undoOk kd key v then
    (bif kd == 1 then ((slotPut l key v).1, c, true) else bif kd == 2 then ((slotDrop l key).1, c, true) else bif kd == 3 then (l, (IntKind.i64.wrap (IntKind.i64.wrap (c - v) + 65536)).tmod 65536, true) else (l, c, true))
    else (l, c, false)) else (l, c, false)
theorem undoOne_length (l : List Int) (c kd key v : Int) : (undoOne l c kd key v).1.length = l.length := by
  unfold undoOne
  cases shelfOk l c <;> cases undoOk kd key v <;> cases (kd == 1) <;> cases (kd == 2) <;> cases (kd == 3) <;> simp [slotPut_length, slotDrop_length]
theorem UndoOne_val (l : List Int) (h : l.length ≤ 2147483648) (c kd key v : Int) (k : List Int → Int → Bool → R) : spec_UndoOne std l c kd key v k = k (undoOne l c kd key v).1 (undoOne l c kd key v).2.1 (undoOne l c kd key v).2.2 := by
  have nz : std.nz 65536 = true := by simp
  simp only [spec_UndoOne, spec_UndoOne_f, spec_l16Copy, spec_l16Copy_f, l15Ints_eq l h, ShelfOk_val, UndoOk_val, (SlotPut_val l h _ _ _).1, SlotDrop_val l h, std_eq, nz, cond_true, std_rem, std_add, std_sub, undoOne]
  cases shelfOk l c <;> cases undoOk kd key v <;> cases (kd == 1) <;> cases (kd == 2) <;> cases (kd == 3) <;> rfl
theorem UndoOne_eq (l : List Int) (h : l.length ≤ 2147483648) (c kd key v : Int) (k : List Int → Int → Bool → R) : impl_UndoOne std l c kd key v k = k (undoOne l c kd key v).1 (undoOne l c kd key v).2.1 (undoOne l c kd key v).2.2 := by
  have nz : std.nz 65536 = true := by simp
  simp only [impl_UndoOne, impl_UndoOne_f, impl_copyShelf, impl_copyShelf_f, copyInts_eq, l15Ints_eq l h, ShelfOk_eq, ShelfOk_val, UndoOk_eq, UndoOk_val, (SlotPut_val l h _ _ _).2, SlotDrop_eq l h, std_eq, nz, cond_true, std_rem, std_add, std_sub, undoOne]
  cases shelfOk l c <;> cases undoOk kd key v <;> cases (kd == 1) <;> cases (kd == 2) <;> cases (kd == 3) <;> rfl

theorem eqShelf1 (a : List Int) (c : Int) (h : a.length ≤ 2147483648) (k : Bool → R) : laws_eqShelf std a c a c k = k true := by
  rw [eqShelf_eq a a c c (by omega)]; simp
theorem markShelf1 (a : List Int) (c : Int) (h : a.length ≤ 2147483648) (k : Int → List Int → R) : laws_markShelf std a c 1 k = k (1 + a.length) (ups 1 a.length) := by
  simp only [laws_markShelf, laws_markShelf_f, mark1 a h]
theorem heldShelf1 (m : Nat) (c : Int) (h : m ≤ 2147483648) (k : Int → R) : laws_heldShelf std (ups 1 m) c 1 k = k (1 + m) := by
  simp only [laws_heldShelf, laws_heldShelf_f, held1 m h, pos1, cond_false]
theorem szShelf_val (a : List Int) (c : Int) (hb : a.length ≤ maxLen) (k : Int → R) : laws_szShelf std a c 1048576 k = k (if (1048576 : Int) - a.length < 0 then -1 else 1048576 - a.length) := by
  unfold laws_szShelf laws_szShelf_f
  simp only [szIntS_eq a 1048576 (by omega) (by omega) hb, std_lt]
  by_cases h : (1048576 : Int) - a.length < 0
  · simp [h]
  · simp only [h, if_false, decide_false, cond_false]
theorem UndoOne_true (l : List Int) (c kd key v : Int) (b : FitArr cx (.ints 3 .i64 l)) (b1 : IntKind.i64.min ≤ c ∧ c ≤ IntKind.i64.max) (b2 : IntKind.i64.min ≤ kd ∧ kd ≤ IntKind.i64.max) (b3 : IntKind.i64.min ≤ key ∧ key ≤ IntKind.i64.max) (b4 : IntKind.i64.min ≤ v ∧ v ≤ IntKind.i64.max) (k : Bool → R) : laws_FnExactUndoOne std l c kd key v k = k true := by
  unfold laws_FnExactUndoOne laws_FnExactUndoOne_f
  rw [szShelf_val l c b.1]
  by_cases hl : (1048576 : Int) - l.length < 0
  · simp [hl]
  · have h : l.length ≤ 2147483648 := by omega
    have hr : (undoOne l c kd key v).1.length ≤ 2147483648 := by rw [undoOne_length]; exact h
    have e0 : std.lt (1048576 - (l.length : Int)) 0 = false := by rw [std_lt]; exact decide_eq_false hl
    simp only [hl, if_false, e0, cond_false, toShelf_eq l c h, laws_toUndo, laws_toUndo_f, UndoOne_val l h, UndoOne_eq l h, eqShelf1 _ _ hr, eqShelf1 l c h, markShelf1 _ _ hr, markShelf1 l c h, heldShelf1 _ _ hr, pos1, eq_self, beq_self, not_true']

/-! ## UndoAll -/
theorem row3 {r : List Int} (h : r.length = 3) : [r.getD 0 0, r.getD 1 0, r.getD 2 0] = r := by
  match r, h with
  | [a, b, c], _ => rfl
theorem toUndoS_l (kx : List (List Int) → R) (a : List (List Int)) (hb : a.length ≤ 2147483648) (hw : ∀ r ∈ a, r.length = 3) : ∀ (m n i : Nat) (o : List (List Int)), i + m = a.length → m < n → o.length = a.length → o.take i = a.take i →
    laws_toUndoS_l0 std (laws_toUndo std) n a i o kx = kx a
  | 0, n + 1, i, o, h, hn, ho, hi => by
    unfold laws_toUndoS_l0
    have e1 : o.take i = o := List.take_of_length_le (by omega)
    have e2 : a.take i = a := List.take_of_length_le (by omega)
    have : o = a := by rw [← e1, ← e2, hi]
    subst this
    simp [show ¬ i < o.length by omega]
  | m + 1, n + 1, i, o, h, hn, ho, hi => by
    unfold laws_toUndoS_l0
    have ih := toUndoS_l kx a hb hw m n (i + 1) (o.set i (a.getD i [])) (by omega) (by omega) (by simpa using ho) (by
      rw [take_set_succ _ _ _ (by omega), take_succ' a [] i (by omega), hi])
    have hrow : (a.getD i []).length = 3 := hw _ (by
      rw [List.getD_eq_getElem?_getD, List.getElem?_eq_getElem (by omega)]; exact List.getElem_mem _)
    have e1 : std.lt (i : Int) (a.length : Int) = true := by rw [lt_nat]; exact decide_eq_true (by omega)
    have e2 : std.inb (i : Int) (a.length : Int) = true := by rw [inb_nat]; exact decide_eq_true (by omega)
    have e3 : std.inb (i : Int) (o.length : Int) = true := by rw [inb_nat]; exact decide_eq_true (by omega)
    simp only [std_vlen, e1, e2, e3, cond_true, laws_toUndo, laws_toUndo_f, std_vput, std_vget, Int.toNat_natCast, std_add, cast1 i (by omega), row3 hrow]
    exact ih
theorem toUndoS_eq (a : List (List Int)) (hb : a.length ≤ 2147483648) (hw : ∀ r ∈ a, r.length = 3) (kx : List (List Int) → R) : laws_toUndoS std a kx = kx a := by
  unfold laws_toUndoS laws_toUndoS_f
  have e1 : std.mkOk (a.length : Int) = true := by rw [std_mkOk]; exact decide_eq_true (by omega)
  have e2 : std.le (a.length : Int) (a.length : Int) = true := by simp
  simp only [std_vlen, e1, e2, cond_true, std_vzero, Int.toNat_natCast]
  generalize hN : std.fuel = N
  have hN : 4294967296 = N := hN
  exact toUndoS_l (fun o => kx o) a hb hw a.length N 0 (List.replicate a.length (List.replicate 3 0)) (by omega) (by omega) (by simp) (by simp)
theorem eqUndo1 (a b c : Int) (k : Bool → R) : laws_eqUndo std a b c a b c k = k true := by
  simp only [laws_eqUndo, laws_eqUndo_f, eq_self, not_true', cond_false]
theorem eqUndoS_l (a : List (List Int)) (hb : a.length ≤ 2147483648) (kret : Bool → R) (kx : Unit → R) : ∀ (m n i : Nat), i + m = a.length → m < n → laws_eqUndoS_l0 std (laws_eqUndo std) n a a i kret kx = kx ()
  | 0, n + 1, i, h, hn => by
    unfold laws_eqUndoS_l0
    have e1 : std.lt (i : Int) (a.length : Int) = false := by rw [lt_nat]; exact decide_eq_false (by omega)
    simp only [std_vlen, e1, cond_false]
  | m + 1, n + 1, i, h, hn => by
    unfold laws_eqUndoS_l0
    have ih := eqUndoS_l a hb kret kx m n (i + 1) (by omega) (by omega)
    have e1 : std.lt (i : Int) (a.length : Int) = true := by rw [lt_nat]; exact decide_eq_true (by omega)
    have e2 : std.inb (i : Int) (a.length : Int) = true := by rw [inb_nat]; exact decide_eq_true (by omega)
    simp only [std_vlen, e1, e2, cond_true, eqUndo1, not_true', cond_false, std_add, cast1 i (by omega), ih]
theorem eqUndoS1 (a : List (List Int)) (hb : a.length ≤ 2147483648) (k : Bool → R) : laws_eqUndoS std a a k = k true := by
  unfold laws_eqUndoS laws_eqUndoS_f
  simp only [eq_self, not_true', cond_false]
  generalize hN : std.fuel = N
  have hN : 4294967296 = N := hN
  exact eqUndoS_l a hb (fun t => k t) (fun _ => k true) a.length N 0 (by omega) (by omega)
theorem markUndoS_l (kx : Int → List (List Int) → R) : ∀ (m n i : Nat) (k : Int) (o : List (List Int)), i + m = o.length → m < n → o.length ≤ 2147483648 → -9223372036854775808 ≤ k → k + 3 * m ≤ 9223372036854775807 →
    ∃ o', laws_markUndoS_l0 std n k i o kx = kx (k + 3 * m) o'
  | 0, n + 1, i, k, o, h, hn, hb, h1, h2 => by
    unfold laws_markUndoS_l0
    have e1 : std.lt (i : Int) (o.length : Int) = false := by rw [lt_nat]; exact decide_eq_false (by omega)
    simp only [std_vlen, e1, cond_false]
    exact ⟨o, by simp⟩
  | m + 1, n + 1, i, k, o, h, hn, hb, h1, h2 => by
    unfold laws_markUndoS_l0
    have e1 : std.lt (i : Int) (o.length : Int) = true := by rw [lt_nat]; exact decide_eq_true (by omega)
    have e2 : std.inb (i : Int) (o.length : Int) = true := by rw [inb_nat]; exact decide_eq_true (by omega)
    have w1 : IntKind.i64.wrap (k + 1) = k + 1 := i64_wrap (by omega) (by omega)
    have w2 : IntKind.i64.wrap (k + 1 + 1) = k + 1 + 1 := i64_wrap (by omega) (by omega)
    have w3 : IntKind.i64.wrap (k + 1 + 1 + 1) = k + 1 + 1 + 1 := i64_wrap (by omega) (by omega)
    simp only [std_vlen, std_vset, List.length_set, e1, e2, cond_true, std_add, cast1 i (by omega), w1, w2, w3]
    have ih := fun (p : List (List Int)) (hp : p.length = o.length) => markUndoS_l kx m n (i + 1) (k + 1 + 1 + 1) p (by omega) (by omega) (by omega) (by omega) (by omega)
    refine (ih _ ?_).elim fun o' ho' => ⟨o', ho'.trans ?_⟩
    · simp only [List.length_set]
    · congr 1
      omega
theorem markUndoS_eq (a : List (List Int)) (k : Int) (hb : a.length ≤ 2147483648) (h1 : 0 ≤ k) (h2 : k ≤ 9223372036854775807 - 3 * a.length) (kx : Int → List (List Int) → R) : ∃ o', laws_markUndoS std a k kx = kx (k + 3 * a.length) o' := by
  unfold laws_markUndoS laws_markUndoS_f
  generalize hN : std.fuel = N
  have hN : 4294967296 = N := hN
  exact markUndoS_l (fun k o => kx k o) a.length N 0 k a (by omega) (by omega) hb (by omega) (by omega)
theorem szUndoS_eq (a : List (List Int)) (left : Int) (h0 : 0 ≤ left) (h1 : left ≤ 1048576) (hb : a.length ≤ maxLen) (k : Int → R) :
    laws_szUndoS std a left k = k (if left - a.length < 0 then -1 else left - a.length) := by
  have hb : a.length ≤ 9223372036854775807 := hb
  have w : IntKind.i64.wrap (left - a.length) = left - a.length := i64_wrap (by omega) (by omega)
  simp only [laws_szUndoS, laws_szUndoS_f, std_sub, std_vlen, w, std_lt]
  by_cases h : left - (a.length : Int) < 0 <;> simp only [h, decide_true, decide_false, cond_true, cond_false, if_true, if_false]

noncomputable def undoGo (u : List (List Int)) : Nat → List Int × Int → List Int × Int
  | 0, s => s
  | m + 1, s => undoGo u m ((undoOne s.1 s.2 ((u.getD m []).getD 0 0) ((u.getD m []).getD 1 0) ((u.getD m []).getD 2 0)).1, (undoOne s.1 s.2 ((u.getD m []).getD 0 0) ((u.getD m []).getD 1 0) ((u.getD m []).getD 2 0)).2.1)
theorem undoGo_length (u : List (List Int)) : ∀ (m : Nat) (s : List Int × Int), (undoGo u m s).1.length = s.1.length
  | 0, s => rfl
  | m + 1, s => by rw [undoGo, undoGo_length]; exact undoOne_length _ _ _ _ _
theorem UndoAll_go (c90 : spec_l16Copy_T) (c91 : impl_copyShelf_T) (u : List (List Int)) (hu : u.length ≤ 2147483648) (kx kx' : Int → Int → List Int → List Int → R) : ∀ (m n : Nat) (s : List Int × Int), m ≤ u.length → m < n → s.1.length ≤ 2147483648 →
    (∀ x y, spec_UndoAll_l0 std c90 (spec_UndoOne std) n u ((m : Int) - 1) x s.2 y s.1 kx = kx x (undoGo u m s).2 y (undoGo u m s).1) ∧
    (∀ x y, impl_UndoAll_l0 std c91 (impl_UndoOne std) n u ((m : Int) - 1) s.2 x s.1 y kx' = kx' (undoGo u m s).2 x (undoGo u m s).1 y)
  | 0, n + 1, s, hm, hn, hs => by
    have e1 : std.le 0 (((0 : Nat) : Int) - 1) = false := by simp
    refine ⟨fun x y => ?_, fun x y => ?_⟩
    · unfold spec_UndoAll_l0
      simp only [e1, cond_false, undoGo]
    · unfold impl_UndoAll_l0
      simp only [e1, cond_false, undoGo]
  | m + 1, n + 1, s, hm, hn, hs => by
    have ei : ((m + 1 : Nat) : Int) - 1 = (m : Int) := by omega
    have e1 : std.le 0 (m : Int) = true := by rw [std_le]; exact decide_eq_true (by omega)
    have e2 : std.inb (m : Int) (u.length : Int) = true := by rw [inb_nat]; exact decide_eq_true (by omega)
    have es : std.sub .i64 (m : Int) 1 = (m : Int) - 1 := by rw [std_sub]; exact i64_wrap (by omega) (by omega)
    have ih := UndoAll_go c90 c91 u hu kx kx' m n ((undoOne s.1 s.2 ((u.getD m []).getD 0 0) ((u.getD m []).getD 1 0) ((u.getD m []).getD 2 0)).1, (undoOne s.1 s.2 ((u.getD m []).getD 0 0) ((u.getD m []).getD 1 0) ((u.getD m []).getD 2 0)).2.1) (by omega) (by omega) (by simp only [undoOne_length]; exact hs)
    refine ⟨fun x y => ?_, fun x y => ?_⟩
    · unfold spec_UndoAll_l0
      simp only [ei, std_vlen, e1, e2, cond_true, std_vget, Int.toNat_natCast, UndoOne_val s.1 hs, es, undoGo]
      exact ih.1 x y
    · unfold impl_UndoAll_l0
      simp only [ei, std_vlen, e1, e2, cond_true, std_vget, Int.toNat_natCast, UndoOne_eq s.1 hs, es, undoGo]
      exact ih.2 x y
noncomputable def undoAll (l : List Int) (c : Int) (u : List (List Int)) : List Int × Int := undoGo u u.length (l, c)
theorem UndoAll_val (l : List Int) (c : Int) (u : List (List Int)) (h : l.length ≤ 2147483648) (hu : u.length ≤ 2147483648) (k : List Int → Int → R) : spec_UndoAll std l c u k = k (undoAll l c u).1 (undoAll l c u).2 := by
  unfold spec_UndoAll spec_UndoAll_f
  have es : std.sub .i64 (u.length : Int) 1 = (u.length : Int) - 1 := by rw [std_sub]; exact i64_wrap (by omega) (by omega)
  simp only [spec_l16Copy, spec_l16Copy_f, l15Ints_eq l h, std_vlen, es]
  generalize hN : std.fuel = N
  have hN : 4294967296 = N := hN
  exact (UndoAll_go _ (impl_copyShelf std) u hu _ (fun _ _ _ _ => none) u.length N (l, c) (by omega) (by omega) h).1 0 []
theorem UndoAll_eq (l : List Int) (c : Int) (u : List (List Int)) (h : l.length ≤ 2147483648) (hu : u.length ≤ 2147483648) (k : List Int → Int → R) : impl_UndoAll std l c u k = k (undoAll l c u).1 (undoAll l c u).2 := by
  unfold impl_UndoAll impl_UndoAll_f
  have es : std.sub .i64 (u.length : Int) 1 = (u.length : Int) - 1 := by rw [std_sub]; exact i64_wrap (by omega) (by omega)
  simp only [impl_copyShelf, impl_copyShelf_f, copyInts_eq, l15Ints_eq l h, std_vlen, es]
  generalize hN : std.fuel = N
  have hN : 4294967296 = N := hN
  exact (UndoAll_go (spec_l16Copy std) _ u hu (fun _ _ _ _ => none) _ u.length N (l, c) (by omega) (by omega) h).2 0 []
theorem UndoAll_true (l : List Int) (c : Int) (u : List (List Int)) (b : FitArr cx (.ints 3 .i64 l)) (b1 : IntKind.i64.min ≤ c ∧ c ≤ IntKind.i64.max) (bu : FitArr cx (.vecs 32 3 u)) (k : Bool → R) : laws_FnExactUndoAll std l c u k = k true := by
  unfold laws_FnExactUndoAll laws_FnExactUndoAll_f
  rw [szShelf_val l c b.1]
  by_cases hl : (1048576 : Int) - l.length < 0
  · simp [hl]
  · have h : l.length ≤ 2147483648 := by omega
    have e0 : std.lt (1048576 - (l.length : Int)) 0 = false := by rw [std_lt]; exact decide_eq_false hl
    simp only [hl, if_false, e0, cond_false]
    rw [szUndoS_eq u _ (by omega) (by omega) bu.1]
    by_cases hl2 : (1048576 : Int) - l.length - u.length < 0
    · simp [hl2]
    · have hu : u.length ≤ 2147483648 := by omega
      have hw : ∀ r ∈ u, r.length = 3 := fun r hr => (bu.2 r hr).1
      have hr : (undoAll l c u).1.length ≤ 2147483648 := by unfold undoAll; rw [undoGo_length]; exact h
      have e1 : std.lt (1048576 - (l.length : Int) - (u.length : Int)) 0 = false := by rw [std_lt]; exact decide_eq_false hl2
      simp only [hl2, if_false, e1, cond_false, toShelf_eq l c h, toUndoS_eq u hu hw, UndoAll_val l c u h hu, UndoAll_eq l c u h hu, eqShelf1 _ _ hr, eqShelf1 l c h, eqUndoS1 u hu, markShelf1 _ _ hr, markShelf1 l c h, heldShelf1 _ _ hr, pos1, eq_self, beq_self, not_true']
      obtain ⟨o', ho'⟩ := markUndoS_eq u (1 + l.length) hu (by omega) (by omega) (fun r21 _ => bif std.lt r21 0 then k false else k true)
      refine ho'.trans ?_
      have e2 : std.lt (1 + (l.length : Int) + 3 * (u.length : Int)) 0 = false := by rw [std_lt]; exact decide_eq_false (by omega)
      simp only [e2, cond_false]
end X
