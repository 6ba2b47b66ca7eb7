/- Models of the functions, or plain laws about them; each theorem states its own conditions. -/
import Derived.Test.YtlcgddghildedaaL3
set_option linter.unusedVariables false
set_option linter.unusedSimpArgs false

namespace X
open PM Go

theorem drop_cons' {α : Type} (l : List α) (d : α) (i : Nat) (h : i < l.length) : l.drop i = l.getD i d :: l.drop (i + 1) := by
  rw [List.drop_eq_getElem_cons h]; simp [List.getD_eq_getElem?_getD, h]
theorem take_succ' {α : Type} (l : List α) (d : α) (i : Nat) (h : i < l.length) : l.take (i + 1) = l.take i ++ [l.getD i d] := by
  rw [List.take_add_one, List.getElem?_eq_getElem h]; simp [List.getD_eq_getElem?_getD, h]
theorem take_set_succ {α : Type} (l : List α) (x : α) (i : Nat) (h : i < l.length) : (l.set i x).take (i + 1) = l.take i ++ [x] := by
  rw [take_succ' _ x i (by simpa using h), List.take_set_of_le (by omega)]
  simp [List.getD_eq_getElem?_getD, h]
theorem cast1 (i : Nat) (h : i ≤ 4611686018427387904) : IntKind.i64.wrap ((i : Int) + 1) = ((i + 1 : Nat) : Int) := by
  rw [i64_wrap (by omega) (by omega)]; omega
theorem inb_nat (i n : Nat) : std.inb (i : Int) (n : Int) = decide (i < n) := by
  simp [PM.std_inb]
theorem lt_nat (i n : Nat) : std.lt (i : Int) (n : Int) = decide (i < n) := by
  simp [PM.std_lt]

/-- The numbers k, k+1, .. -/
def ups (k : Int) : Nat → List Int
  | 0 => []
  | n + 1 => k :: ups (k + 1) n
theorem ups_length (k : Int) (n : Nat) : (ups k n).length = n := by
  induction n generalizing k with
  | zero => rfl
  | succ n ih => simp [ups, ih]
/-- A computation that comes to one value. -/
def Det {α : Type} (f : (α → R) → R) : Prop := ∃ r, ∀ k, f k = k r
def Det2 {α β : Type} (f : (α → β → R) → R) : Prop := ∃ r s, ∀ k, f k = k r s
theorem det_k {α : Type} (x : α) : Det (fun k => k x) := ⟨x, fun _ => rfl⟩
theorem det_bif {α : Type} {c : Bool} {f g : (α → R) → R} (hf : Det f) (hg : Det g) : Det (fun k => bif c then f k else g k) := by
  cases c
  · exact hg
  · exact hf
theorem det2_k {α β : Type} (x : α) (y : β) : Det2 (fun k => k x y) := ⟨x, y, fun _ => rfl⟩
theorem det2_bif {α β : Type} {c : Bool} {f g : (α → β → R) → R} (hf : Det2 f) (hg : Det2 g) : Det2 (fun k => bif c then f k else g k) := by
  cases c
  · exact hg
  · exact hf
theorem det_bind {α γ : Type} {g : (γ → R) → R} (hg : Det g) {f : γ → (α → R) → R} (hf : ∀ x, Det (f x)) : Det (fun k => g fun r => f r k) := by
  obtain ⟨x, hx⟩ := hg
  obtain ⟨y, hy⟩ := hf x
  exact ⟨y, fun k => (hx _).trans (hy k)⟩
theorem det2_bind {α β γ : Type} {g : (γ → R) → R} (hg : Det g) {f : γ → (α → β → R) → R} (hf : ∀ x, Det2 (f x)) : Det2 (fun k => g fun r => f r k) := by
  obtain ⟨x, hx⟩ := hg
  obtain ⟨y, z, hy⟩ := hf x
  exact ⟨y, z, fun k => (hx _).trans (hy k)⟩

theorem pos1 (m : Nat) : std.lt (1 + (m : Int)) 0 = false := by simp; omega
theorem eq_self (x : Int) : std.eq x x = true := by simp
theorem beq_self (x : Bool) : std.beq x x = true := by simp
theorem not_true' : std.not true = false := rfl
theorem not_false' : std.not false = true := rfl
theorem pos2 (m n : Nat) : std.lt (1 + (m : Int) + (n : Int)) 0 = false := by rw [std_lt]; exact decide_eq_false (by omega)
def got {α : Type} (o : Option Nat) (kret : Int → α) (kx : Unit → α) : α := match o with | some j => kret (j : Int) | none => kx ()

theorem got_app {α β : Type} (o : Option Nat) (f : α → β) (kret : Int → α) (kx : Unit → α) : f (got o kret kx) = got o (fun j => f (kret j)) (fun u => f (kx u)) := by cases o <;> rfl
theorem row3 {r : List Int} (h : r.length = 3) : [r.getD 0 0, r.getD 1 0, r.getD 2 0] = r := by
  match r, h with
  | [a, b, c], _ => rfl
theorem getD_mem {α : Type} {l : List α} {i : Nat} {d : α} (h : i < l.length) : l.getD i d ∈ l := by
  rw [List.getD_eq_getElem?_getD, List.getElem?_eq_getElem h]; exact List.getElem_mem _
theorem getD_set_self {α : Type} {l : List α} {i : Nat} {x d : α} (h : i < l.length) : (l.set i x).getD i d = x := by
  rw [List.getD_eq_getElem?_getD, List.getElem?_set_self h]; rfl
theorem row2 {r : List Int} (h : r.length = 2) : [r.getD 0 0, r.getD 1 0] = r := by
  match r, h with
  | [a, b], _ => rfl
theorem row4 {r : List Int} (h : r.length = 4) : [r.getD 0 0, r.getD 1 0, r.getD 2 0, r.getD 3 0] = r := by
  match r, h with
  | [a, b, c, d], _ => rfl
theorem setrow2 {r : List Int} (h : r.length = 2) (k : Int) : (r.set 0 k).set 1 (k + 1) = ups k 2 := by
  match r, h with
  | [a, b], _ => rfl
theorem setrow3 {r : List Int} (h : r.length = 3) (k : Int) : ((r.set 0 k).set 1 (k + 1)).set 2 (k + 1 + 1) = ups k 3 := by
  match r, h with
  | [a, b, c], _ => rfl
theorem setrow4 {r : List Int} (h : r.length = 4) (k : Int) : (((r.set 0 k).set 1 (k + 1)).set 2 (k + 1 + 1)).set 3 (k + 1 + 1 + 1) = ups k 4 := by
  match r, h with
  | [a, b, c, d], _ => rfl
/-- Rows of numbers in turn. -/
def vups (n : Nat) (k : Int) : Nat → List (List Int)
  | 0 => []
  | m + 1 => ups k n :: vups n (k + n) m
theorem vups_length (n : Nat) (k : Int) (m : Nat) : (vups n k m).length = m := by
  induction m generalizing k with
  | zero => rfl
  | succ m ih => simp [vups, ih]
end X
