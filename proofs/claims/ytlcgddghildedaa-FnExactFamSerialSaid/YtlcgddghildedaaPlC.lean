/- Models of the functions, or plain laws about them; each theorem states its own conditions. -/
import Derived.Test.YtlcgddghildedaaPlB
set_option linter.unusedVariables false
set_option linter.unusedSimpArgs false

namespace X
open PM Go

theorem add1 {i : Nat} (h : i ≤ 4611686018427387904) : std.add .i64 (i : Int) 1 = ((i + 1 : Nat) : Int) := by rw [std_add]; exact cast1 i h
theorem lt_nat_t {i n : Nat} (h : i < n) : std.lt (i : Int) (n : Int) = true := by rw [lt_nat]; exact decide_eq_true h
theorem lt_nat_f {i n : Nat} (h : n ≤ i) : std.lt (i : Int) (n : Int) = false := by rw [lt_nat]; exact decide_eq_false (by omega)
theorem inb_nat_t {i n : Nat} (h : i < n) : std.inb (i : Int) (n : Int) = true := by rw [inb_nat]; exact decide_eq_true h
theorem zero_nat : (0 : Int) = ((0 : Nat) : Int) := rfl

/-! ## Loops over 0, 1, .. -/
def allF (p : Nat → Bool) : Nat → Nat → Bool
  | 0, _ => true
  | m + 1, i => bif p i then allF p m (i + 1) else false
def allB (p : Nat → Bool) (n : Nat) : Bool := allF p n 0
theorem allF_iff {p : Nat → Bool} : ∀ {m i : Nat}, allF p m i = true ↔ ∀ j, i ≤ j → j < i + m → p j = true
  | 0, i => by simp only [allF, true_iff]; intro j h1 h2; omega
  | m + 1, i => by
    unfold allF
    cases hp : p i
    · simp only [cond_false, Bool.false_eq_true, false_iff]
      intro h
      have := h i (Nat.le_refl _) (by omega)
      rw [hp] at this; cases this
    · rw [cond_true, allF_iff]
      constructor
      · intro h j h1 h2
        by_cases e : i = j
        · subst e; exact hp
        · exact h j (by omega) (by omega)
      · intro h j h1 h2
        exact h j (by omega) (by omega)
theorem allB_iff {p : Nat → Bool} {n : Nat} : allB p n = true ↔ ∀ j, j < n → p j = true := by
  unfold allB
  rw [allF_iff]
  exact ⟨fun h j hj => h j (Nat.zero_le _) (by omega), fun h j _ hj => h j (by omega)⟩
theorem loop_all (p : Nat → Bool) (len : Nat) (F : Nat → Int → R) (yes no : R)
    (hs : ∀ n i : Nat, i < len → F (n + 1) (i : Int) = bif p i then F n ((i + 1 : Nat) : Int) else no)
    (he : ∀ n, F (n + 1) (len : Int) = yes) : ∀ m N i : Nat, i + m = len → m < N → F N (i : Int) = bif allF p m i then yes else no
  | 0, N + 1, i, h, hn => by
    have : i = len := by omega
    subst this
    rw [he]; rfl
  | m + 1, N + 1, i, h, hn => by
    rw [hs N i (by omega), loop_all p len F yes no hs he m N (i + 1) (by omega) (by omega), show allF p (m + 1) i = bif p i then allF p m (i + 1) else false from rfl]
    cases p i <;> rfl
theorem loop_all0 {p : Nat → Bool} {len : Nat} {F : Nat → Int → R} {yes no : R} {N : Nat} (hN : len < N)
    (hs : ∀ n i : Nat, i < len → F (n + 1) (i : Int) = bif p i then F n ((i + 1 : Nat) : Int) else no)
    (he : ∀ n, F (n + 1) (len : Int) = yes) : F N 0 = bif allB p len then yes else no :=
  loop_all p len F yes no hs he len N 0 (by omega) hN

/-- The first place. -/
def findF (p : Nat → Bool) : Nat → Nat → Option Nat
  | 0, _ => none
  | m + 1, i => bif p i then some i else findF p m (i + 1)
def findB (p : Nat → Bool) (n : Nat) : Option Nat := findF p n 0
theorem loop_find (p : Nat → Bool) (len : Nat) (F : Nat → Int → R) (kr : Nat → R) (no : R)
    (hs : ∀ n i : Nat, i < len → F (n + 1) (i : Int) = bif p i then kr i else F n ((i + 1 : Nat) : Int))
    (he : ∀ n, F (n + 1) (len : Int) = no) : ∀ m N i : Nat, i + m = len → m < N → F N (i : Int) = match findF p m i with | some j => kr j | none => no
  | 0, N + 1, i, h, hn => by
    have : i = len := by omega
    subst this
    rw [he]; rfl
  | m + 1, N + 1, i, h, hn => by
    rw [hs N i (by omega), loop_find p len F kr no hs he m N (i + 1) (by omega) (by omega), show findF p (m + 1) i = bif p i then some i else findF p m (i + 1) from rfl]
    cases p i <;> rfl
theorem loop_find0 {p : Nat → Bool} {len : Nat} {F : Nat → Int → R} {kr : Nat → R} {no : R} {N : Nat} (hN : len < N)
    (hs : ∀ n i : Nat, i < len → F (n + 1) (i : Int) = bif p i then kr i else F n ((i + 1 : Nat) : Int))
    (he : ∀ n, F (n + 1) (len : Int) = no) : F N 0 = match findB p len with | some j => kr j | none => no :=
  loop_find p len F kr no hs he len N 0 (by omega) hN

/-- A state that is carried along. -/
def foldF {S : Type} (f : Nat → S → S) : Nat → Nat → S → S
  | 0, _, s => s
  | m + 1, i, s => foldF f m (i + 1) (f i s)
def foldB {S : Type} (f : Nat → S → S) (n : Nat) (s : S) : S := foldF f n 0 s
theorem loop_fold {S : Type} (f : Nat → S → S) (Inv : Nat → S → Prop) (len : Nat) (F : Nat → Int → S → R) (kx : S → R)
    (hs : ∀ (n i : Nat) (s : S), i < len → Inv i s → F (n + 1) (i : Int) s = F n ((i + 1 : Nat) : Int) (f i s))
    (hi : ∀ (i : Nat) (s : S), i < len → Inv i s → Inv (i + 1) (f i s))
    (he : ∀ (n : Nat) (s : S), Inv len s → F (n + 1) (len : Int) s = kx s) : ∀ (m N i : Nat) (s : S), i + m = len → m < N → Inv i s → F N (i : Int) s = kx (foldF f m i s) ∧ Inv len (foldF f m i s)
  | 0, N + 1, i, s, h, hn, hv => by
    have : i = len := by omega
    subst this
    exact ⟨he N s hv, hv⟩
  | m + 1, N + 1, i, s, h, hn, hv => by
    rw [hs N i s (by omega) hv]
    exact loop_fold f Inv len F kx hs hi he m N (i + 1) _ (by omega) (by omega) (hi i s (by omega) hv)
theorem loop_fold0 {S : Type} {f : Nat → S → S} (Inv : Nat → S → Prop) {len : Nat} {F : Nat → Int → S → R} {kx : S → R} {N : Nat} {s : S} (hN : len < N) (h0 : Inv 0 s)
    (hs : ∀ (n i : Nat) (s : S), i < len → Inv i s → F (n + 1) (i : Int) s = F n ((i + 1 : Nat) : Int) (f i s))
    (hi : ∀ (i : Nat) (s : S), i < len → Inv i s → Inv (i + 1) (f i s))
    (he : ∀ (n : Nat) (s : S), Inv len s → F (n + 1) (len : Int) s = kx s) : F N 0 s = kx (foldB f len s) :=
  (loop_fold f Inv len F kx hs hi he len N 0 s (by omega) hN h0).1
theorem foldF_inv {S : Type} (f : Nat → S → S) (Inv : Nat → S → Prop) (len : Nat) (hi : ∀ (i : Nat) (s : S), i < len → Inv i s → Inv (i + 1) (f i s)) : ∀ (m i : Nat) (s : S), i + m = len → Inv i s → Inv len (foldF f m i s)
  | 0, i, s, h, hv => by have : i = len := by omega
                         subst this; exact hv
  | m + 1, i, s, h, hv => foldF_inv f Inv len hi m (i + 1) _ (by omega) (hi i s (by omega) hv)
theorem foldB_inv {S : Type} {f : Nat → S → S} (Inv : Nat → S → Prop) {len : Nat} {s : S} (h0 : Inv 0 s) (hi : ∀ (i : Nat) (s : S), i < len → Inv i s → Inv (i + 1) (f i s)) : Inv len (foldB f len s) :=
  foldF_inv f Inv len hi len 0 s (by omega) h0

/-- A state that is carried along, with an early end. -/
def runF {S E : Type} (f : Nat → S → S ⊕ E) : Nat → Nat → S → S ⊕ E
  | 0, _, s => .inl s
  | m + 1, i, s => match f i s with
    | .inl s' => runF f m (i + 1) s'
    | .inr e => .inr e
def runB {S E : Type} (f : Nat → S → S ⊕ E) (n : Nat) (s : S) : S ⊕ E := runF f n 0 s
def fin {S E : Type} (kx : S → R) (kr : E → R) : S ⊕ E → R
  | .inl s => kx s
  | .inr e => kr e
theorem loop_run {S E : Type} (f : Nat → S → S ⊕ E) (Inv : Nat → S → Prop) (len : Nat) (F : Nat → Int → S → R) (kx : S → R) (kr : E → R)
    (hs : ∀ (n i : Nat) (s : S), i < len → Inv i s → F (n + 1) (i : Int) s = fin (fun s' => F n ((i + 1 : Nat) : Int) s') kr (f i s))
    (hi : ∀ (i : Nat) (s s' : S), i < len → Inv i s → f i s = .inl s' → Inv (i + 1) s')
    (he : ∀ (n : Nat) (s : S), Inv len s → F (n + 1) (len : Int) s = kx s) : ∀ (m N i : Nat) (s : S), i + m = len → m < N → Inv i s → F N (i : Int) s = fin kx kr (runF f m i s)
  | 0, N + 1, i, s, h, hn, hv => by
    have : i = len := by omega
    subst this
    rw [he N s hv]; rfl
  | m + 1, N + 1, i, s, h, hn, hv => by
    rw [hs N i s (by omega) hv, show runF f (m + 1) i s = match f i s with | .inl s' => runF f m (i + 1) s' | .inr e => .inr e from rfl]
    cases hf : f i s with
    | inl s' => exact loop_run f Inv len F kx kr hs hi he m N (i + 1) s' (by omega) (by omega) (hi i s s' (by omega) hv hf)
    | inr e => rfl
theorem loop_run0 {S E : Type} {f : Nat → S → S ⊕ E} (Inv : Nat → S → Prop) {len : Nat} {F : Nat → Int → S → R} {kx : S → R} {kr : E → R} {N : Nat} {s : S} (hN : len < N) (h0 : Inv 0 s)
    (hs : ∀ (n i : Nat) (s : S), i < len → Inv i s → F (n + 1) (i : Int) s = fin (fun s' => F n ((i + 1 : Nat) : Int) s') kr (f i s))
    (hi : ∀ (i : Nat) (s s' : S), i < len → Inv i s → f i s = .inl s' → Inv (i + 1) s')
    (he : ∀ (n : Nat) (s : S), Inv len s → F (n + 1) (len : Int) s = kx s) : F N 0 s = fin kx kr (runB f len s) :=
  loop_run f Inv len F kx kr hs hi he len N 0 s (by omega) hN h0

/-- Loops downwards. -/
theorem sub1 {i : Nat} (h : i ≤ 4611686018427387904) : std.sub .i64 ((i + 1 : Nat) : Int) 1 = (i : Int) := by
  rw [std_sub, i64_wrap (by omega) (by omega)]; omega
end X
