/- Models of the functions, or plain laws about them; each theorem states its own conditions. -/
import Derived.Test.YtnkgcegeinemjaaQ5
import Derived.Test.YtnkgcegeinemjaaPlH
set_option linter.unusedVariables false
set_option linter.unusedSimpArgs false
open Go.Proofs
namespace X
open PM Go

theorem bif_and {α : Type} (a b : Bool) (x y : α) : (bif a then (bif b then x else y) else y) = bif (a && b) then x else y := by cases a <;> rfl
theorem bif_not {α : Type} (a : Bool) (x y : α) : (bif std.not a then x else y) = bif a then y else x := by cases a <;> rfl
theorem bif_same {α : Type} (a : Bool) (x : α) : (bif a then x else x) = x := by cases a <;> rfl
theorem bif_k {α β : Type} (a : Bool) (k : α → β) (x y : α) : (bif a then k x else k y) = k (bif a then x else y) := by cases a <;> rfl
def cellB (x : Int) : Bool := decide (0 ≤ x ∧ x ≤ 7)
def valB (x : Int) : Bool := decide (0 ≤ x ∧ x ≤ 65535)
def inB (x a b : Int) : Bool := decide (a ≤ x ∧ x ≤ b)
theorem in_val (x a b : Int) (k : Bool → R) : spec_l1In std x a b k = k (inB x a b) := l1In_val x a b k
theorem cell_val (x : Int) (k : Bool → R) : spec_l3Cell std x k = k (cellB x) := l1In_val x 0 7 k
theorem val_val (x : Int) (k : Bool → R) : spec_l3Val std x k = k (valB x) := l1In_val x 0 65535 k
theorem in_val' (x a b : Int) (k : Bool → R) : impl_within std x a b k = k (inB x a b) := l1In_val x a b k
theorem cell_val' (x : Int) (k : Bool → R) : impl_isCell std x k = k (cellB x) := l1In_val x 0 7 k
theorem val_val' (x : Int) (k : Bool → R) : impl_isValue std x k = k (valB x) := l1In_val x 0 65535 k

/-! ## MemOk -/
def wordOk (c : Int) (l : List (List Int)) (i : Nat) : Bool := valB (fld l i 0) && (inB (fld l i 1) 0 c && inB (fld l i 2) 0 99)
theorem MemOk_l1 (c : Int) (l : List (List Int)) (hb : l.length ≤ 2147483648) (kret : Bool → R) (kx : Unit → R) (N : Nat) (hN : l.length < N) :
    spec_MemOk_l0 std (spec_l1In std) (spec_l3Val std) N 0 c l kret kx = bif allB (wordOk c l) l.length then kx () else kret false := by
  refine loop_all0 (F := fun n i => spec_MemOk_l0 std (spec_l1In std) (spec_l3Val std) n i c l kret kx) hN (fun n i hi => ?_) (fun n => ?_)
  · simp only [spec_MemOk_l0, std_vlen, lt_nat_t hi, inb_nat_t hi, cond_true, vget_nat, val_val, in_val, bif_not, bif_and, add1 (i := i) (by omega), wordOk]
  · simp only [spec_MemOk_l0, std_vlen, lt_nat_f (Nat.le_refl _), cond_false]
theorem MemOk_l2 (c : Int) (l m : List (List Int)) (hb : l.length ≤ 2147483648) (kret : Bool → R) (kx : Int → List (List Int) → R) (N : Nat) (hN : l.length < N) :
    impl_MemOk_l0 std (impl_within std) (impl_isValue std) N l l.length 0 c m kret kx = bif allB (wordOk c l) l.length then kx c m else kret false := by
  refine loop_all0 (F := fun n i => impl_MemOk_l0 std (impl_within std) (impl_isValue std) n l l.length i c m kret kx) hN (fun n i hi => ?_) (fun n => ?_)
  · simp only [impl_MemOk_l0, std_vlen, lt_nat_t hi, inb_nat_t hi, cond_true, vget_nat, val_val', in_val', bif_not, bif_and, add1 (i := i) (by omega), wordOk]
  · simp only [impl_MemOk_l0, lt_nat_f (Nat.le_refl _), cond_false]
def memOk (c : Int) (l : List (List Int)) : Bool := ((l.length : Int) == 8) && (inB c 0 1000000 && allB (wordOk c l) l.length)
theorem MemOk_val (c : Int) (l : List (List Int)) (hb : l.length ≤ 2147483648) (k : Bool → R) : spec_MemOk std c l k = k (memOk c l) ∧ impl_MemOk std c l k = k (memOk c l) := by
  unfold spec_MemOk spec_MemOk_f impl_MemOk impl_MemOk_f memOk
  generalize hN : std.fuel = N
  have hN : 4294967296 = N := hN
  simp only [std_vlen, MemOk_l1 c l hb _ _ N (by omega), MemOk_l2 c l l hb _ _ N (by omega), in_val, in_val', std_eq, bif_not]
  cases ((l.length : Int) == 8) <;> cases inB c 0 1000000 <;> cases allB (wordOk c l) l.length <;> exact ⟨rfl, rfl⟩
theorem memOk_spec {c : Int} {l : List (List Int)} (h : memOk c l = true) : l.length = 8 ∧ (0 ≤ c ∧ c ≤ 1000000) ∧ ∀ i, i < 8 → (0 ≤ fld l i 0 ∧ fld l i 0 ≤ 65535) ∧ (0 ≤ fld l i 1 ∧ fld l i 1 ≤ c) ∧ (0 ≤ fld l i 2 ∧ fld l i 2 ≤ 99) := by
  unfold memOk at h
  rw [Bool.and_eq_true, Bool.and_eq_true] at h
  obtain ⟨h1, h2, h3⟩ := h
  have h1 : l.length = 8 := by have := eq_of_beq h1; omega
  refine ⟨h1, of_decide_eq_true h2, fun i hi => ?_⟩
  have := (allB_iff.1 h3) i (by omega)
  unfold wordOk at this
  rw [Bool.and_eq_true, Bool.and_eq_true] at this
  exact ⟨of_decide_eq_true this.1, of_decide_eq_true this.2.1, of_decide_eq_true this.2.2⟩

/-! ## ProbeStep -/
def probeOk (c p v x : Int) : Bool := cellB c && (inB p 0 4 && (inB v 0 1000000 && valB x))
theorem ProbeOk_val (c p v x : Int) (k : Bool → R) : spec_ProbeOk std c p v x k = k (probeOk c p v x) ∧ impl_ProbeOk std c p v x k = k (probeOk c p v x) := by
  simp only [spec_ProbeOk, spec_ProbeOk_f, impl_ProbeOk, impl_ProbeOk_f, cell_val, cell_val', val_val, val_val', in_val, in_val', probeOk]
  cases cellB c <;> cases inB p 0 4 <;> cases inB v 0 1000000 <;> cases valB x <;> exact ⟨rfl, rfl⟩
def probeStep (cl : Int) (l : List (List Int)) (rv c p v x : Int) : Int × Int × Int × Int :=
  bif memOk cl l && probeOk c p v x then
    bif p == 0 then (bif (fld l c.toNat 2 == 0) && decide (fld l c.toNat 1 ≤ rv) then (c, 1, fld l c.toNat 1, x) else (c, 4, v, x))
    else bif p == 1 then (c, 2, v, fld l c.toNat 0)
    else bif p == 2 then (bif (fld l c.toNat 2 == 0) && (fld l c.toNat 1 == v) then (c, 3, v, x) else (c, 4, v, x))
    else (c, p, v, x)
  else (c, p, v, x)
theorem vget_at (l : List (List Int)) (c : Int) (j : Nat) : std.vget l c j = fld l c.toNat j := rfl
theorem ProbeStep_val (cl : Int) (l : List (List Int)) (rv c p v x : Int) (hb : l.length ≤ 2147483648) (k : Int → Int → Int → Int → R) :
    spec_ProbeStep std cl l rv c p v x k = k (probeStep cl l rv c p v x).1 (probeStep cl l rv c p v x).2.1 (probeStep cl l rv c p v x).2.2.1 (probeStep cl l rv c p v x).2.2.2 ∧
    impl_ProbeStep std cl l rv c p v x k = k (probeStep cl l rv c p v x).1 (probeStep cl l rv c p v x).2.1 (probeStep cl l rv c p v x).2.2.1 (probeStep cl l rv c p v x).2.2.2 := by
  unfold spec_ProbeStep spec_ProbeStep_f impl_ProbeStep impl_ProbeStep_f probeStep
  simp only [(MemOk_val cl l hb _).1, (MemOk_val cl l hb _).2, (ProbeOk_val c p v x _).1, (ProbeOk_val c p v x _).2, bif_not]
  cases hm : memOk cl l
  · exact ⟨rfl, rfl⟩
  · cases hp : probeOk c p v x
    · exact ⟨rfl, rfl⟩
    · have h8 := (memOk_spec hm).1
      have hc : 0 ≤ c ∧ c ≤ 7 := by
        unfold probeOk at hp
        rw [Bool.and_eq_true] at hp
        exact of_decide_eq_true hp.1
      have hi : std.inb c (l.length : Int) = true := by rw [std_inb]; exact decide_eq_true (by omega)
      have hle : decide (rv < fld l c.toNat 1) = !decide (fld l c.toNat 1 ≤ rv) := by
        by_cases h : fld l c.toNat 1 ≤ rv <;> simp [h] <;> omega
      simp only [std_vlen, hi, cond_true, vget_at, std_eq, std_lt, std_le, Bool.and_self, hle]
      cases (p == 0) <;> cases (p == 1) <;> cases (p == 2) <;> cases (fld l c.toNat 2 == 0) <;> cases decide (fld l c.toNat 1 ≤ rv) <;> cases (fld l c.toNat 1 == v) <;> exact ⟨rfl, rfl⟩
theorem szWordS_eq (a : List (List Int)) (left : Int) (h0 : 0 ≤ left) (h1 : left ≤ 1048576) (hb : a.length ≤ maxLen) (k : Int → R) :
    laws_szWordS std a left k = k (if left - a.length < 0 then -1 else left - a.length) := by
  have hb : a.length ≤ 9223372036854775807 := hb
  have w : IntKind.i64.wrap (left - a.length) = left - a.length := i64_wrap (by omega) (by omega)
  simp only [laws_szWordS, laws_szWordS_f, std_sub, std_vlen, w, std_lt]
  by_cases h : left - (a.length : Int) < 0 <;> simp only [h, decide_true, decide_false, cond_true, cond_false, if_true, if_false]
theorem toWordS_l (kx : List (List Int) → R) (a : List (List Int)) (hb : a.length ≤ 2147483648) (hw : ∀ r ∈ a, r.length = 3) : ∀ (m n i : Nat) (o : List (List Int)), i + m = a.length → m < n → o.length = a.length → o.take i = a.take i →
    laws_toWordS_l0 std (laws_toWord std) n a i o kx = kx a
  | 0, n + 1, i, o, h, hn, ho, hi => by
    unfold laws_toWordS_l0
    have e1 : o.take i = o := List.take_of_length_le (by omega)
    have e2 : a.take i = a := List.take_of_length_le (by omega)
    have : o = a := by rw [← e1, ← e2, hi]
    subst this
    have e1 : std.lt (i : Int) (o.length : Int) = false := by rw [lt_nat]; exact decide_eq_false (by omega)
    simp only [std_vlen, e1, cond_false]
  | m + 1, n + 1, i, o, h, hn, ho, hi => by
    unfold laws_toWordS_l0
    have ih := toWordS_l kx a hb hw m n (i + 1) (o.set i (a.getD i [])) (by omega) (by omega) (by simpa using ho) (by
      rw [take_set_succ _ _ _ (by omega), take_succ' a [] i (by omega), hi])
    have hrow := row3 (hw _ (getD_mem (d := []) (show i < a.length by omega)))
    have e1 : std.lt (i : Int) (a.length : Int) = true := by rw [lt_nat]; exact decide_eq_true (by omega)
    have e2 : std.inb (i : Int) (a.length : Int) = true := by rw [inb_nat]; exact decide_eq_true (by omega)
    have e3 : std.inb (i : Int) (o.length : Int) = true := by rw [inb_nat]; exact decide_eq_true (by omega)
    simp only [std_vlen, e1, e2, e3, cond_true, laws_toWord, laws_toWord_f, std_vput, std_vget, Int.toNat_natCast, std_add, cast1 i (by omega), hrow]
    exact ih
theorem toWordS_eq (a : List (List Int)) (hb : a.length ≤ 2147483648) (hw : ∀ r ∈ a, r.length = 3) (kx : List (List Int) → R) : laws_toWordS std a kx = kx a := by
  unfold laws_toWordS laws_toWordS_f
  have e1 : std.mkOk (a.length : Int) = true := by rw [std_mkOk]; exact decide_eq_true (by omega)
  have e2 : std.le (a.length : Int) (a.length : Int) = true := by simp
  simp only [std_vlen, e1, e2, cond_true, std_vzero, Int.toNat_natCast]
  generalize hN : std.fuel = N
  have hN : 4294967296 = N := hN
  exact toWordS_l (fun o => kx o) a hb hw a.length N 0 (List.replicate a.length (List.replicate 3 0)) (by omega) (by omega) (by simp) (by simp)
theorem eqWord1 (a b c : Int) (k : Bool → R) : laws_eqWord std a b c a b c k = k true := by
  simp only [laws_eqWord, laws_eqWord_f, eq_self, not_true', cond_false]
theorem eqWordS_l (a : List (List Int)) (hb : a.length ≤ 2147483648) (kret : Bool → R) (kx : Unit → R) : ∀ (m n i : Nat), i + m = a.length → m < n → laws_eqWordS_l0 std (laws_eqWord std) n a a i kret kx = kx ()
  | 0, n + 1, i, h, hn => by
    unfold laws_eqWordS_l0
    have e1 : std.lt (i : Int) (a.length : Int) = false := by rw [lt_nat]; exact decide_eq_false (by omega)
    simp only [std_vlen, e1, cond_false]
  | m + 1, n + 1, i, h, hn => by
    unfold laws_eqWordS_l0
    have ih := eqWordS_l a hb kret kx m n (i + 1) (by omega) (by omega)
    have e1 : std.lt (i : Int) (a.length : Int) = true := by rw [lt_nat]; exact decide_eq_true (by omega)
    have e2 : std.inb (i : Int) (a.length : Int) = true := by rw [inb_nat]; exact decide_eq_true (by omega)
    simp only [std_vlen, e1, e2, cond_true, eqWord1, not_true', cond_false, std_add, cast1 i (by omega), ih]
theorem eqWordS1 (a : List (List Int)) (hb : a.length ≤ 2147483648) (k : Bool → R) : laws_eqWordS std a a k = k true := by
  unfold laws_eqWordS laws_eqWordS_f
  simp only [eq_self, not_true', cond_false]
  generalize hN : std.fuel = N
  have hN : 4294967296 = N := hN
  exact eqWordS_l a hb (fun t => k t) (fun _ => k true) a.length N 0 (by omega) (by omega)

theorem ProbeStep_true (cl : Int) (l : List (List Int)) (rv c p v x : Int) (b1 : IntKind.i64.min ≤ cl ∧ cl ≤ IntKind.i64.max) (b : FitArr cx (.vecs 35 3 l)) (b2 : IntKind.i64.min ≤ rv ∧ rv ≤ IntKind.i64.max)
    (b3 : IntKind.i64.min ≤ c ∧ c ≤ IntKind.i64.max) (b4 : IntKind.i64.min ≤ p ∧ p ≤ IntKind.i64.max) (b5 : IntKind.i64.min ≤ v ∧ v ≤ IntKind.i64.max) (b6 : IntKind.i64.min ≤ x ∧ x ≤ IntKind.i64.max) (k : Bool → R) :
    laws_FnExactProbeStep std cl l rv c p v x k = k true := by
  unfold laws_FnExactProbeStep laws_FnExactProbeStep_f laws_szMem laws_szMem_f laws_toMem laws_toMem_f laws_toProbe laws_toProbe_f laws_eqMem laws_eqMem_f laws_eqProbe laws_eqProbe_f
  rw [szWordS_eq l 1048576 (by omega) (by omega) b.1]
  by_cases hl : (1048576 : Int) - l.length < 0
  · simp [hl]
  · have h : l.length ≤ 2147483648 := by omega
    have hw : ∀ r ∈ l, r.length = 3 := fun r hr => (b.2 r hr).1
    have e0 : std.lt (1048576 - (l.length : Int)) 0 = false := by rw [std_lt]; exact decide_eq_false hl
    simp only [hl, if_false, e0, cond_false, toWordS_eq l h hw, (ProbeStep_val cl l rv c p v x h _).1, (ProbeStep_val cl l rv c p v x h _).2, eqWordS1 l h, eq_self, not_true']
end X
