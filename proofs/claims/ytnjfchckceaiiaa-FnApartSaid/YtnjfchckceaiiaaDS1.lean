/- Models of the functions, or plain laws about them; each theorem states its own conditions. -/
import Derived.Test.YtnjfchckceaiiaaQD2
import Derived.Test.YtnjfchckceaiiaaPNB
import Derived.Test.YtnjfchckceaiiaaQM1
set_option linter.unusedVariables false
set_option linter.unusedSimpArgs false
open Go.Proofs
namespace X
open PM Go

/-! ## Draws of slots and shelves -/
theorem Dr.e {α : Type} {b : List Int} {P : α → Prop} {f : (α → List Int → Int → Int → R) → R} (h : Dr b P f) : ∃ x i' h', At b i' ∧ ∀ k, f k = k x b i' h' := by
  obtain ⟨x, i, hh, _, h1, h2⟩ := h
  exact ⟨x, i, hh, h1, h2⟩
theorem bit_dr {α : Type} {b : List Int} {c : Bool} {f g : (α → List Int → Int → Int → R) → R} (hf : ∃ x i' h', At b i' ∧ ∀ k, f k = k x b i' h') (hg : ∃ x i' h', At b i' ∧ ∀ k, g k = k x b i' h') :
    ∃ x i' h', At b i' ∧ ∀ k, (bif c then f k else g k) = k x b i' h' := by
  cases c
  · obtain ⟨x, i, hh, h1, h2⟩ := hg
    exact ⟨x, i, hh, h1, fun k => (bf _ _).trans (h2 k)⟩
  · obtain ⟨x, i, hh, h1, h2⟩ := hf
    exact ⟨x, i, hh, h1, fun k => (bt _ _).trans (h2 k)⟩
theorem Reg_dr (b : List Int) (i h : Int) (ha : At b i) : ∃ x i' h', At b i' ∧ ∀ k, spec_l4DrawReg std b i h k = k x b i' h' := by
  obtain ⟨x, i1, h1, _, a1, k1⟩ := Below_dr b i h 4 ha
  exact ⟨x, i1, h1, a1, fun k => by simp only [spec_l4DrawReg, spec_l4DrawReg_f, k1]⟩
theorem Cell_dr (b : List Int) (i h : Int) (ha : At b i) : ∃ x i' h', At b i' ∧ ∀ k, spec_l4DrawCell std b i h k = k x b i' h' := by
  obtain ⟨c, i1, h1, _, a1, k1⟩ := Once_dr b i h 8 ha
  cases c
  · obtain ⟨x, i2, h2, _, a2, k2⟩ := Below_dr b i1 h1 3 a1
    exact ⟨x, i2, h2, a2, fun k => by simp only [spec_l4DrawCell, spec_l4DrawCell_f, k1, bf, k2]⟩
  · obtain ⟨x, i2, h2, _, a2, k2⟩ := Below_dr b i1 h1 8 a1
    exact ⟨x, i2, h2, a2, fun k => by simp only [spec_l4DrawCell, spec_l4DrawCell_f, k1, bt, k2]⟩
theorem Key_dr (b : List Int) (i h : Int) (ha : At b i) : ∃ x i' h', At b i' ∧ ∀ k, spec_l4DrawKey std b i h k = k x b i' h' := by
  obtain ⟨c, i1, h1, _, a1, k1⟩ := Once_dr b i h 4 ha
  cases c
  · obtain ⟨x, i2, h2, _, _, a2, g2, k2⟩ := pick_dr [0, 4, 1] ⟨by decide, by decide⟩ b i1 h1 a1
    exact ⟨std.iget [0, 4, 1] x, i2, h2, a2, fun k => by simp only [spec_l4DrawKey, spec_l4DrawKey_f, k1, bf, k2, g2, bt]⟩
  · obtain ⟨x, i2, h2, _, a2, k2⟩ := Below_dr b i1 h1 8 a1
    exact ⟨x, i2, h2, a2, fun k => by simp only [spec_l4DrawKey, spec_l4DrawKey_f, k1, bt, k2]⟩
def D4 (b : List Int) (f : (Int → Int → Int → Int → List Int → Int → Int → R) → R) : Prop := ∃ o0 o1 o2 o3 i' h', At b i' ∧ ∀ k, f k = k o0 o1 o2 o3 b i' h'
theorem D4.bif {b : List Int} {c : Bool} {f g : (Int → Int → Int → Int → List Int → Int → Int → R) → R} (hf : D4 b f) (hg : D4 b g) : D4 b (fun k => bif c then f k else g k) := by
  cases c
  · obtain ⟨a, b', d, e, i, hh, h1, h2⟩ := hg
    exact ⟨a, b', d, e, i, hh, h1, fun k => (bf _ _).trans (h2 k)⟩
  · obtain ⟨a, b', d, e, i, hh, h1, h2⟩ := hf
    exact ⟨a, b', d, e, i, hh, h1, fun k => (bt _ _).trans (h2 k)⟩
theorem D4.bind {b : List Int} {g : (Int → List Int → Int → Int → R) → R} {f : Int → List Int → Int → Int → (Int → Int → Int → Int → List Int → Int → Int → R) → R} (hg : ∃ x i' h', At b i' ∧ ∀ k, g k = k x b i' h') (hf : ∀ x i' h', At b i' → D4 b (f x b i' h')) :
    D4 b (fun k => g fun x b' i' h' => f x b' i' h' k) := by
  obtain ⟨x, i, hh, h1, h2⟩ := hg
  obtain ⟨a, b', d, e, i', hh', h3, h4⟩ := hf x i hh h1
  exact ⟨a, b', d, e, i', hh', h3, fun k => (h2 _).trans (h4 k)⟩
theorem D4.done {b : List Int} {i h o0 o1 o2 o3 : Int} (ha : At b i) : D4 b (fun k => k o0 o1 o2 o3 b i h) := ⟨o0, o1, o2, o3, i, h, ha, fun _ => rfl⟩
theorem D4.pick {b : List Int} {i h : Int} (L : List Int) (hl : 0 < L.length ∧ L.length ≤ 100) (ha : At b i) {f : Int → List Int → Int → Int → (Int → Int → Int → Int → List Int → Int → Int → R) → R} (hf : ∀ x i' h', At b i' → D4 b (f x b i' h')) :
    D4 b (fun k => spec_l1Below std b i h (std.ilen L) fun x b' i' h' => cond (std.inb x (std.ilen L)) (f x b' i' h' k) none) := by
  obtain ⟨x, i2, h2, _, _, a2, g2, k2⟩ := pick_dr L hl b i h ha
  obtain ⟨a, b', d, e, i', hh', h3, h4⟩ := hf x i2 h2 a2
  exact ⟨a, b', d, e, i', hh', h3, fun k => (k2 _).trans (by show cond (std.inb x (std.ilen L)) (f x b i2 h2 k) none = _; rw [g2]; exact (bt _ _).trans (h4 k))⟩
theorem Plain4_dr (b : List Int) (i h kd : Int) (ha : At b i) : D4 b (spec_l4Plain std b i h kd) := by
  have e : spec_l4Plain std b i h kd = fun k => spec_l4Plain std b i h kd k := rfl
  rw [e]
  simp only [spec_l4Plain, spec_l4Plain_f]
  repeat (first
    | exact D4.done (by assumption)
    | refine D4.bind (Reg_dr _ _ _ (by assumption)) (fun _ _ _ _ => ?_)
    | refine D4.bind (Cell_dr _ _ _ (by assumption)) (fun _ _ _ _ => ?_)
    | refine D4.bind (Key_dr _ _ _ (by assumption)) (fun _ _ _ _ => ?_)
    | refine D4.bind (Below_dr _ _ _ _ (by assumption)).e (fun _ _ _ _ => ?_)
    | refine D4.bind (Draw3_dr _ _ _ (by assumption)).e (fun _ _ _ _ => ?_)
    | refine D4.bif ?_ ?_
    | dsimp only)
theorem D4.bind4 {b : List Int} {g : (Int → Int → Int → Int → List Int → Int → Int → R) → R} {f : Int → Int → Int → Int → List Int → Int → Int → (Int → Int → Int → Int → List Int → Int → Int → R) → R} (hg : D4 b g) (hf : ∀ x y z u i' h', At b i' → D4 b (f x y z u b i' h')) :
    D4 b (fun k => g fun x y z u b' i' h' => f x y z u b' i' h' k) := by
  obtain ⟨x, y, z, u, i, hh, h1, h2⟩ := hg
  obtain ⟨a, b', d, e, i', hh', h3, h4⟩ := hf x y z u i hh h1
  exact ⟨a, b', d, e, i', hh', h3, fun k => (h2 _).trans (h4 k)⟩
theorem Any4_dr (b : List Int) (i h : Int) (ha : At b i) : D4 b (spec_l4Any std b i h) := by
  have e : spec_l4Any std b i h = fun k => spec_l4Any std b i h k := rfl
  rw [e]
  simp only [spec_l4Any, spec_l4Any_f]
  refine D4.bind (Below_dr _ _ _ _ ha).e (fun _ _ _ a1 => ?_)
  refine D4.bind4 (Plain4_dr _ _ _ _ a1) (fun _ _ _ _ _ _ a2 => ?_)
  refine D4.bind (Below_dr _ _ _ _ a2).e (fun _ _ _ a3 => ?_)
  refine D4.bif (D4.pick _ ⟨by decide, by decide⟩ a3 fun _ _ _ a4 => D4.done a4) (D4.bif (D4.pick _ ⟨by decide, by decide⟩ a3 fun _ _ _ a4 => D4.done a4) (D4.bif (D4.pick _ ⟨by decide, by decide⟩ a3 fun _ _ _ a4 => D4.done a4) (D4.bif (D4.pick _ ⟨by decide, by decide⟩ a3 fun _ _ _ a4 => D4.done a4) (D4.done a3))))
/-! ### Slots -/
theorem Some15_l (b : List Int) : ∀ (m N n : Nat) (i h : Int) (l : List Int), n ≤ m → m < N → m ≤ 14 → At b i → l.length = 16 →
    ∃ i' h' l', At b i' ∧ l'.length = 16 ∧ ∀ kx, spec_l15Some_l0 std (spec_SlotNew std) (spec_l1Below std) (spec_l1Once std) (spec_SlotDrop std) (spec_l3Draw std) (spec_SlotPut std) N (n : Int) b i h l kx = kx b i' h' l'
  | m, 0, n, i, h, l, h1, h2, h3, ha, hl => by omega
  | m, N + 1, 0, i, h, l, h1, h2, h3, ha, hl => by
    have e : std.lt 0 ((0 : Nat) : Int) = false := rfl
    exact ⟨i, h, l, ha, hl, fun kx => by simp only [spec_l15Some_l0, e, bf]⟩
  | 0, N + 1, n + 1, i, h, l, h1, h2, h3, ha, hl => by omega
  | m + 1, N + 1, n + 1, i, h, l, h1, h2, h3, ha, hl => by
    have e : std.lt 0 ((n + 1 : Nat) : Int) = true := by rw [std_lt]; exact decide_eq_true (by omega)
    have es : std.sub .i64 ((n + 1 : Nat) : Int) 1 = (n : Int) := sub1 (by omega)
    obtain ⟨x1, i1, h1', -, a1, k1⟩ := Below_dr b i h 8 ha
    obtain ⟨c, i2, h2', -, a2, k2⟩ := Once_dr b i1 h1' 3 a1
    cases c
    · obtain ⟨x3, i3, h3', -, a3, k3⟩ := Draw3_dr b i2 h2' a2
      have hv := (SlotPut_val l (by omega) x1 x3)
      have hlen := slotPut_length l x1 x3
      generalize slotPut l x1 x3 = q at hv hlen
      obtain ⟨i', h', l', r1, r2, r3⟩ := Some15_l b m N n i3 h3' q.1 (by omega) (by omega) (by omega) a3 (by omega)
      exact ⟨i', h', l', r1, r2, fun kx => by simp only [spec_l15Some_l0, e, bt, bf, k1, k2, k3, hv, es, r3]⟩
    · have hv := SlotDrop_val l (by omega) x1
      have hlen := slotDrop_length l x1
      generalize slotDrop l x1 = q at hv hlen
      obtain ⟨i', h', l', r1, r2, r3⟩ := Some15_l b m N n i2 h2' q.1 (by omega) (by omega) (by omega) a2 (by omega)
      exact ⟨i', h', l', r1, r2, fun kx => by simp only [spec_l15Some_l0, e, bt, k1, k2, hv, es, r3]⟩
theorem Some15_dr (b : List Int) (i h : Int) (ha : At b i) : ∃ l i' h', l.length = 16 ∧ At b i' ∧ ∀ k, spec_l15Some std b i h k = k l b i' h' := by
  unfold spec_l15Some spec_l15Some_f
  generalize hN : std.fuel = N
  have hN : 4294967296 = N := hN
  obtain ⟨x1, i1, h1, p1, a1, k1⟩ := Below_pos b i h 14 ha (by omega)
  obtain ⟨i', h', l', r1, r2, r3⟩ := Some15_l b 14 N x1.toNat i1 h1 (List.replicate 16 0) (by omega) (by omega) (by omega) a1 (by simp)
  rw [Int.toNat_of_nonneg p1.1] at r3
  exact ⟨l', i', h', r2, r1, fun k => by simp only [SlotNew_val, k1, r3]⟩
theorem Any15_dr (b : List Int) (i h : Int) (ha : At b i) : ∃ l i' h', l.length ≤ 16 ∧ At b i' ∧ ∀ k, spec_l15Any std b i h k = k l b i' h' := by
  obtain ⟨l, i1, h1, q1, a1, k1⟩ := Some15_dr b i h ha
  have el : std.ilen l = 16 := by rw [std_ilen, q1]; rfl
  obtain ⟨x2, i2, h2, p2, a2, k2⟩ := Below_pos b i1 h1 (std.ilen l) a1 (by rw [el]; omega)
  obtain ⟨x3, i3, h3, -, a3, k3⟩ := Below_dr b i2 h2 16 a2
  rw [el] at p2
  have ei : std.inb x2 (std.ilen l) = true := by rw [el, std_inb]; exact decide_eq_true p2
  have es : std.subb 0 x2 (std.ilen l) = true := by rw [el]; exact decide_eq_true (by omega)
  have sl : ∀ x : Int, (std.iset l x2 x).length ≤ 16 := fun x => by rw [std_iset, List.length_set]; omega
  unfold spec_l15Any spec_l15Any_f
  simp only [k1, k2, k3]
  cases std.eq x3 0
  · cases std.eq x3 1
    · cases std.eq x3 2
      · exact ⟨l, i3, h3, by omega, a3, fun k => by simp only [bf]⟩
      · obtain ⟨x4, i4, h4, -, -, a4, g4, k4⟩ := pick_dr [-1, 524289, 524288] ⟨by decide, by decide⟩ b i3 h3 a3
        exact ⟨std.iset l x2 (std.iget [-1, 524289, 524288] x4), i4, h4, sl _, a4, fun k => by simp only [bf, bt, k4, g4, ei]⟩
    · obtain ⟨x4, i4, h4, -, a4, k4⟩ := Below_dr b i3 h3 8 a3
      exact ⟨std.iset l x2 (std.add .i64 1 (std.mul .i64 x4 65536)), i4, h4, sl _, a4, fun k => by simp only [bf, bt, k4, ei]⟩
  · refine ⟨std.isub l 0 x2, i3, h3, ?_, a3, fun k => by simp only [bt, es]⟩
    show ((l.drop _).take _).length ≤ 16
    simp; omega
theorem AnyKey_dr (b : List Int) (i h : Int) (ha : At b i) : ∃ x i' h', At b i' ∧ ∀ k, spec_l15AnyKey std b i h k = k x b i' h' := by
  obtain ⟨c, i1, h1, _, a1, k1⟩ := Once_dr b i h 12 ha
  cases c
  · obtain ⟨x, i2, h2, _, a2, k2⟩ := Below_dr b i1 h1 8 a1
    exact ⟨x, i2, h2, a2, fun k => by simp only [spec_l15AnyKey, spec_l15AnyKey_f, k1, bf, k2]⟩
  · obtain ⟨x, i2, h2, _, _, a2, g2, k2⟩ := pick_dr [-1, 8, 9223372036854775807] ⟨by decide, by decide⟩ b i1 h1 a1
    exact ⟨std.iget [-1, 8, 9223372036854775807] x, i2, h2, a2, fun k => by simp only [spec_l15AnyKey, spec_l15AnyKey_f, k1, bt, k2, g2]⟩
theorem DrawSlotPut_dr (code : List Int) (hb : code.length ≤ 1048576) : ∃ l key v, l.length ≤ 16 ∧ ∀ k, spec_DrawSlotPut std code k = k l key v := by
  obtain ⟨h0, k0⟩ := New_dr code hb
  have a0 : At code 0 := ⟨Int.le_refl _, by omega, hb⟩
  obtain ⟨l, i1, h1, q1, a1, k1⟩ := Any15_dr code 0 h0 a0
  obtain ⟨x2, i2, h2, a2, k2⟩ := AnyKey_dr code i1 h1 a1
  obtain ⟨x3, i3, h3, -, -, a3, g3, k3⟩ := pick_dr [0, 1, 7, 65535, 65536, -1, 3] ⟨by decide, by decide⟩ code i2 h2 a2
  exact ⟨l, x2, std.iget [0, 1, 7, 65535, 65536, -1, 3] x3, q1, fun k => by simp only [spec_DrawSlotPut, spec_DrawSlotPut_f, k0, k1, k2, k3, g3, bt]⟩
theorem Any16_dr (b : List Int) (i h : Int) (ha : At b i) : ∃ l c i' h', l.length ≤ 16 ∧ At b i' ∧ ∀ k, spec_l16Any std b i h k = k l c b i' h' := by
  obtain ⟨l, i1, h1, q1, a1, k1⟩ := Some15_dr b i h ha
  obtain ⟨x2, i2, h2, -, a2, k2⟩ := Draw3_dr b i1 h1 a1
  obtain ⟨x3, i3, h3, -, a3, k3⟩ := Below_dr b i2 h2 20 a2
  unfold spec_l16Any spec_l16Any_f
  simp only [k1, k2, k3]
  cases std.eq x3 0
  · cases std.eq x3 1
    · exact ⟨l, x2, i3, h3, by omega, a3, fun k => by simp only [bf]⟩
    · exact ⟨l, 65536, i3, h3, by omega, a3, fun k => by simp only [bf, bt]⟩
  · obtain ⟨l', i4, h4, q4, a4, k4⟩ := Any15_dr b i3 h3 a3
    exact ⟨l', x2, i4, h4, q4, a4, fun k => by simp only [bt, k4]⟩
theorem regs4 {x y z u : Int} (hx : 0 ≤ x ∧ x ≤ 65535) (hy : 0 ≤ y ∧ y ≤ 65535) (hz : 0 ≤ z ∧ z ≤ 65535) (hu : 0 ≤ u ∧ u ≤ 65535) : regsOk [x, y, z, u] = true := by
  simp [regsOk, allVal, valOk_of hx, valOk_of hy, valOk_of hz, valOk_of hu]
theorem DrawBoostDo_dr (code : List Int) (hb : code.length ≤ 1048576) : ∃ l c kd a b d r, l.length ≤ 16 ∧ r.length ≤ 4 ∧ (r.length = 4 → regsOk r = true) ∧ ∀ k, spec_DrawBoostDo std code k = k l c kd a b d r := by
  obtain ⟨h0, k0⟩ := New_dr code hb
  have a0 : At code 0 := ⟨Int.le_refl _, by omega, hb⟩
  obtain ⟨l, c, i1, h1, q1, a1, k1⟩ := Any16_dr code 0 h0 a0
  obtain ⟨x2, i2, h2, -, a2, k2⟩ := Below_dr code i1 h1 5 a1
  obtain ⟨o0, o1, o2, o3, i3, h3, a3, k3⟩ := Plain4_dr code i2 h2 (std.add .i64 12 x2) a2
  obtain ⟨c4, i4, h4, -, a4, k4⟩ := Once_dr code i3 h3 8 a3
  have es : ∀ x y z u : Int, std.subb 0 3 (std.ilen [x, y, z, u]) = true := fun _ _ _ _ => rfl
  have e3 : ∀ x y z u : Int, (std.isub [x, y, z, u] 0 3).length = 3 := fun _ _ _ _ => rfl
  have key : ∀ (i h : Int) (ha : At code i), ∃ r : List Int, r.length ≤ 4 ∧ (r.length = 4 → regsOk r = true) ∧ ∀ f : List Int → R, (spec_l3Draw std code i h fun r31 r32 r33 r34 => spec_l3Draw std r32 r33 r34 fun r35 r36 r37 r38 => spec_l3Draw std r36 r37 r38 fun r39 r40 r41 r42 => spec_l3Draw std r40 r41 r42 fun r43 r44 r45 r46 =>
      spec_l1Once std r44 r45 r46 15 fun r47 r48 r49 r50 => bif r47 then (bif std.subb 0 3 (std.ilen [r31, r35, r39, r43]) then f (std.isub [r31, r35, r39, r43] 0 3) else none) else f [r31, r35, r39, r43]) = f r := by
    intro i h ha
    obtain ⟨y1, i1, h1, p1, a1, k1⟩ := Draw3_dr code i h ha
    obtain ⟨y2, i2, h2, p2, a2, k2⟩ := Draw3_dr code i1 h1 a1
    obtain ⟨y3, i3, h3, p3, a3, k3⟩ := Draw3_dr code i2 h2 a2
    obtain ⟨y4, i4, h4, p4, a4, k4⟩ := Draw3_dr code i3 h3 a3
    obtain ⟨c5, i5, h5, -, a5, k5⟩ := Once_dr code i4 h4 15 a4
    cases c5
    · exact ⟨[y1, y2, y3, y4], by simp, fun _ => regs4 p1 p2 p3 p4, fun f => by simp only [k1, k2, k3, k4, k5, bf]⟩
    · exact ⟨std.isub [y1, y2, y3, y4] 0 3, by rw [e3]; omega, fun h => by rw [e3] at h; omega, fun f => by simp only [k1, k2, k3, k4, k5, bt, es]⟩
  cases c4
  · obtain ⟨r, r1, r2, r3⟩ := key i4 h4 a4
    exact ⟨l, c, o0, o1, o2, o3, r, q1, r1, r2, fun k => by simp only [spec_DrawBoostDo, spec_DrawBoostDo_f, k0, k1, k2, k3, k4, bf]; exact r3 (k l c o0 o1 o2 o3)⟩
  · obtain ⟨u0, u1, u2, u3, i5, h5, a5, k5⟩ := Any4_dr code i4 h4 a4
    obtain ⟨r, r1, r2, r3⟩ := key i5 h5 a5
    exact ⟨l, c, u0, u1, u2, u3, r, q1, r1, r2, fun k => by simp only [spec_DrawBoostDo, spec_DrawBoostDo_f, k0, k1, k2, k3, k4, bt, k5]; exact r3 (k l c u0 u1 u2 u3)⟩
end X
