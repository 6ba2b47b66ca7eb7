/- Models of the functions, or plain laws about them; each theorem states its own conditions. -/
import Derived.Test.YtnjfchckceaiiaaPlC
set_option linter.unusedVariables false
set_option linter.unusedSimpArgs false
namespace X
open PM Go

/-! ## Slots and shelves, plain -/
/-- A slot's key and value. -/
theorem slot_range {s : Int} (h0 : s ≠ 0) (h1 : 0 ≤ s) (h2 : s ≤ 524288) : IntKind.i64.wrap (s - 1) = s - 1 ∧ IntKind.i64.wrap ((s - 1).tdiv 65536) = (s - 1).tdiv 65536 ∧ 0 ≤ (s - 1).tdiv 65536 ∧ (s - 1).tdiv 65536 < 8 := by
  have e : (s - 1).tdiv 65536 = (s - 1) / 65536 := Int.tdiv_eq_ediv_of_nonneg (by omega)
  refine ⟨i64_wrap (by omega) (by omega), ?_, ?_, ?_⟩
  · rw [e]; exact i64_wrap (by omega) (by omega)
  · rw [e]; omega
  · rw [e]; omega
/-- The bucket of a key. -/
def bucket (key : Int) : Int := if 0 ≤ key ∧ key < 8 then (key * 7 + 3).tmod 4 else -1
def slotKey (s : Int) : Int := (s - 1).tdiv 65536
def slotsGo (l : List Int) : Nat → Nat → List Bool → Bool
  | 0, _, _ => true
  | m + 1, i, o =>
    bif decide (l.getD i 0 = 0) then slotsGo l m (i + 1) o
    else bif decide (1 ≤ l.getD i 0 ∧ l.getD i 0 ≤ 524288) then
      bif o.getD (slotKey (l.getD i 0)).toNat false then false
      else bif decide (bucket (slotKey (l.getD i 0)) = (i : Int).tdiv 4) then slotsGo l m (i + 1) (o.set (slotKey (l.getD i 0)).toNat true)
      else false
    else false
def slotsOk (l : List Int) : Bool := decide (l.length = 16) && slotsGo l 16 0 (List.replicate 8 false)
def valOk (x : Int) : Bool := bif decide (0 ≤ x) then decide (x ≤ 65535) else false
def keyOk (x : Int) : Bool := bif decide (0 ≤ x) then decide (x ≤ 7) else false
def shelfOk (a : List Int) (c : Int) : Bool := bif slotsOk a then valOk c else false
theorem slotsGo_range (l : List Int) : ∀ (m i : Nat) (o : List Bool), slotsGo l m i o = true → ∀ j, i ≤ j → j < i + m → 0 ≤ l.getD j 0 ∧ l.getD j 0 ≤ 524288
  | 0, i, o, _, j, h1, h2 => by omega
  | m + 1, i, o, h, j, h1, h2 => by
    unfold slotsGo at h
    by_cases e0 : l.getD i 0 = 0
    · simp only [e0, decide_true, cond_true] at h
      by_cases e : i = j
      · subst e; omega
      · exact slotsGo_range l m (i + 1) o h j (by omega) (by omega)
    · simp only [e0, decide_false, cond_false] at h
      by_cases e1 : 1 ≤ l.getD i 0 ∧ l.getD i 0 ≤ 524288
      · simp only [e1, and_self, decide_true, cond_true] at h
        by_cases e : i = j
        · subst e; omega
        · revert h
          cases o.getD (slotKey (l.getD i 0)).toNat false
          · by_cases e2 : bucket (slotKey (l.getD i 0)) = (i : Int).tdiv 4
            · simp only [e2, decide_true, cond_true, cond_false]
              exact fun h => slotsGo_range l m (i + 1) _ h j (by omega) (by omega)
            · simp only [e2, decide_false, cond_false]
              intro h; cases h
          · simp only [cond_true]
            intro h; cases h
      · simp only [e1, decide_false, cond_false] at h
        cases h
theorem slotsOk_spec {l : List Int} (h : slotsOk l = true) : l.length = 16 ∧ ∀ j, j < 16 → 0 ≤ l.getD j 0 ∧ l.getD j 0 ≤ 524288 := by
  unfold slotsOk at h
  rw [Bool.and_eq_true, decide_eq_true_eq] at h
  exact ⟨h.1, fun j hj => slotsGo_range l 16 0 _ h.2 j (by omega) (by omega)⟩
/-- Where the key lies. -/
def atGo (l : List Int) (key : Int) : Nat → Nat → Option Nat
  | 0, _ => none
  | m + 1, i => bif decide (1 ≤ l.getD i 0) then (bif decide (slotKey (l.getD i 0) = key) then some i else atGo l key m (i + 1)) else atGo l key m (i + 1)
theorem atGo_some (l : List Int) (key : Int) : ∀ (m i j : Nat), atGo l key m i = some j → i ≤ j ∧ j < i + m ∧ 1 ≤ l.getD j 0 ∧ slotKey (l.getD j 0) = key
  | 0, i, j, h => by cases h
  | m + 1, i, j, h => by
    unfold atGo at h
    by_cases h1 : 1 ≤ l.getD i 0
    · simp only [h1, decide_true, cond_true] at h
      by_cases h2 : slotKey (l.getD i 0) = key
      · simp only [h2, decide_true, cond_true, Option.some.injEq] at h
        subst h
        exact ⟨by omega, by omega, h1, h2⟩
      · simp only [h2, decide_false, cond_false] at h
        obtain ⟨a, b, c⟩ := atGo_some l key m (i + 1) j h
        exact ⟨by omega, by omega, c⟩
    · simp only [h1, decide_false, cond_false] at h
      obtain ⟨a, b, c⟩ := atGo_some l key m (i + 1) j h
      exact ⟨by omega, by omega, c⟩
def atOf (l : List Int) (key : Int) : Int := got (atGo l key 16 0) (fun j => j) (fun _ => -1)
theorem atOf_cases {l : List Int} (h : slotsOk l = true) (key : Int) : atOf l key = -1 ∨ ∃ j : Nat, atOf l key = j ∧ j < 16 ∧ 1 ≤ l.getD j 0 ∧ l.getD j 0 ≤ 524288 ∧ slotKey (l.getD j 0) = key := by
  obtain ⟨hl, hr⟩ := slotsOk_spec h
  unfold atOf
  cases e : atGo l key 16 0 with
  | none => exact .inl rfl
  | some j =>
    obtain ⟨a, b, c, d⟩ := atGo_some l key 16 0 j e
    exact .inr ⟨j, rfl, by omega, c, (hr j (by omega)).2, d⟩
/-- What SlotGet comes to. -/
def slotGet (l : List Int) (key : Int) : Int × Bool :=
  bif slotsOk l then (bif keyOk key then (bif decide (atOf l key < 0) then (0, false) else ((l.getD (atOf l key).toNat 0 - 1).tmod 65536, true)) else (0, false)) else (0, false)
theorem keyOk_nn {key : Int} (h : keyOk key = true) : 0 ≤ key ∧ key ≤ 7 := by
  unfold keyOk at h
  by_cases h1 : 0 ≤ key
  · simp only [h1, decide_true, cond_true, decide_eq_true_eq] at h; exact ⟨h1, h⟩
  · simp [h1] at h
def slotDrop (l : List Int) (key : Int) : List Int × Int × Bool :=
  bif slotsOk l then (bif keyOk key then (bif decide (atOf l key < 0) then (l, 0, true) else (l.set (atOf l key).toNat 0, IntKind.i64.wrap ((l.getD (atOf l key).toNat 0 - 1).tmod 65536 + 1), true)) else (l, 0, false)) else (l, 0, false)
theorem slotDrop_length (l : List Int) (key : Int) : (slotDrop l key).1.length = l.length := by
  unfold slotDrop
  cases slotsOk l <;> cases keyOk key <;> cases decide (atOf l key < 0) <;> simp
def mapGo (l : List Int) : Nat → Int → List Int → List Int
  | 0, _, o => o
  | m + 1, key, o => mapGo l m (key + 1) (o ++ [bif (slotGet l key).2 then IntKind.i64.wrap ((slotGet l key).1 + 1) else 0])
theorem mapGo_length (l : List Int) : ∀ (m : Nat) (key : Int) (o : List Int), (mapGo l m key o).length = o.length + m
  | 0, _, o => rfl
  | m + 1, key, o => by rw [mapGo, mapGo_length]; simp; omega
theorem slotGet_zero (l : List Int) (key : Int) (h : (slotGet l key).2 = false) : (slotGet l key).1 = 0 := by
  unfold slotGet at h ⊢
  cases h1 : slotsOk l <;> cases h2 : keyOk key <;> cases h3 : decide (atOf l key < 0) <;> simp_all
def mapOf (l : List Int) : List Int := bif slotsOk l then mapGo l 8 0 [] else []
theorem mapOf_length (l : List Int) : (mapOf l).length ≤ 8 := by
  unfold mapOf
  cases slotsOk l
  · simp
  · simp [mapGo_length]
theorem slotsGo_inv (l : List Int) : ∀ (m i : Nat) (o : List Bool), o.length = 8 → slotsGo l m i o = true → ∀ j, i ≤ j → j < i + m → l.getD j 0 ≠ 0 →
    bucket (slotKey (l.getD j 0)) = (j : Int).tdiv 4 ∧ o.getD (slotKey (l.getD j 0)).toNat false = false ∧ ∀ j', j < j' → j' < i + m → l.getD j' 0 ≠ 0 → slotKey (l.getD j' 0) ≠ slotKey (l.getD j 0)
  | 0, i, o, ho, _, j, h1, h2, _ => by omega
  | m + 1, i, o, ho, h, j, h1, h2, hz => by
    have hall := slotsGo_range l (m + 1) i o h
    unfold slotsGo at h
    by_cases e0 : l.getD i 0 = 0
    · simp only [e0, decide_true, cond_true] at h
      have hne : i ≠ j := fun e => by subst e; exact hz e0
      obtain ⟨a, b, c⟩ := slotsGo_inv l m (i + 1) o ho h j (by omega) (by omega) hz
      exact ⟨a, b, fun j' g1 g2 g3 => c j' g1 (by omega) g3⟩
    · simp only [e0, decide_false, cond_false] at h
      by_cases e1 : 1 ≤ l.getD i 0 ∧ l.getD i 0 ≤ 524288
      · simp only [e1, and_self, decide_true, cond_true] at h
        cases hq : o.getD (slotKey (l.getD i 0)).toNat false
        case true => rw [hq] at h; cases h
        case false =>
          rw [hq] at h
          simp only [cond_false] at h
          by_cases e2 : bucket (slotKey (l.getD i 0)) = (i : Int).tdiv 4
          · simp only [e2, decide_true, cond_true] at h
            obtain ⟨w1, w2, w3, w4⟩ := slot_range e0 (by omega) e1.2
            have hset : ∀ s : Int, 1 ≤ s → s ≤ 524288 → (o.set (slotKey (l.getD i 0)).toNat true).getD (slotKey s).toNat false = false → slotKey s ≠ slotKey (l.getD i 0) ∧ o.getD (slotKey s).toNat false = false := by
              intro s s1 s2 hs
              by_cases e : (slotKey (l.getD i 0)).toNat = (slotKey s).toNat
              · rw [← e] at hs
                have hlt : (slotKey (l.getD i 0)).toNat < o.length := by rw [ho]; unfold slotKey; omega
                rw [List.getD_eq_getElem?_getD, List.getElem?_set_self hlt] at hs
                cases hs
              · refine ⟨fun e' => e (by rw [e']), ?_⟩
                rw [List.getD_eq_getElem?_getD, List.getElem?_set_ne e] at hs
                rw [List.getD_eq_getElem?_getD]; exact hs
            by_cases e : i = j
            · subst e
              refine ⟨e2, hq, fun j' g1 g2 g3 => ?_⟩
              have hr' := hall j' (by omega) g2
              obtain ⟨_, b, _⟩ := slotsGo_inv l m (i + 1) _ (by simpa using ho) h j' (by omega) (by omega) g3
              exact (hset _ (by omega) hr'.2 b).1
            · have hr' := hall j h1 h2
              obtain ⟨a, b, c⟩ := slotsGo_inv l m (i + 1) _ (by simpa using ho) h j (by omega) (by omega) hz
              exact ⟨a, (hset _ (by omega) hr'.2 b).2, fun j' g1 g2 g3 => c j' g1 (by omega) g3⟩
          · simp only [e2, decide_false, cond_false] at h; cases h
      · simp only [e1, decide_false, cond_false] at h; cases h
theorem atGo_none (l : List Int) (key : Int) : ∀ (m i : Nat), atGo l key m i = none → ∀ j, i ≤ j → j < i + m → 1 ≤ l.getD j 0 → slotKey (l.getD j 0) ≠ key
  | 0, i, _, j, h1, h2, _ => by omega
  | m + 1, i, h, j, h1, h2, h3 => by
    unfold atGo at h
    by_cases e : i = j
    · subst e
      simp only [h3, decide_true, cond_true] at h
      by_cases e2 : slotKey (l.getD i 0) = key
      · simp only [e2, decide_true, cond_true] at h; cases h
      · exact e2
    · have : atGo l key m (i + 1) = none := by
        by_cases e1 : 1 ≤ l.getD i 0
        · simp only [e1, decide_true, cond_true] at h
          by_cases e2 : slotKey (l.getD i 0) = key
          · simp only [e2, decide_true, cond_true] at h; cases h
          · simpa only [e2, decide_false, cond_false] using h
        · simpa only [e1, decide_false, cond_false] using h
      exact atGo_none l key m (i + 1) this j (by omega) (by omega) h3
theorem bucket_eq4 {k : Int} (h0 : 0 ≤ k) (h1 : k < 8) : bucket k = (7 * k + 3) % 4 := by
  unfold bucket
  rw [if_pos ⟨h0, h1⟩, Int.tmod_eq_emod_of_nonneg (by omega), Int.mul_comm]
/-- A key that isn't there has room in its bucket. -/
theorem free_slot {l : List Int} (h : slotsOk l = true) {key : Int} (h0 : 0 ≤ key) (h7 : key ≤ 7) (ha : atOf l key < 0) : ∃ j : Nat, 4 * bucket key ≤ j ∧ (j : Int) < 4 * bucket key + 4 ∧ l.getD j 0 = 0 := by
  have hb := bucket_eq4 h0 (by omega)
  have hnone : atGo l key 16 0 = none := by
    unfold atOf at ha
    cases e : atGo l key 16 0 with
    | none => rfl
    | some j => rw [e] at ha; simp only [got] at ha; omega
  obtain ⟨hl, hr⟩ := slotsOk_spec h
  unfold slotsOk at h
  rw [Bool.and_eq_true] at h
  have inv := slotsGo_inv l 16 0 (List.replicate 8 false) (by simp) h.2
  obtain ⟨b, hbb⟩ : ∃ b : Nat, bucket key = (b : Int) ∧ b < 4 := ⟨(bucket key).toNat, by omega, by omega⟩
  by_cases z0 : l.getD (4 * b) 0 = 0
  · exact ⟨4 * b, by omega, by omega, z0⟩
  by_cases z1 : l.getD (4 * b + 1) 0 = 0
  · exact ⟨4 * b + 1, by omega, by omega, z1⟩
  exfalso
  have r0 := hr (4 * b) (by omega)
  have r1 := hr (4 * b + 1) (by omega)
  obtain ⟨i1, _, i3⟩ := inv (4 * b) (by omega) (by omega) z0
  obtain ⟨j1, _, _⟩ := inv (4 * b + 1) (by omega) (by omega) z1
  have i3 := i3 (4 * b + 1) (by omega) (by omega) z1
  have n0 := atGo_none l key 16 0 hnone (4 * b) (by omega) (by omega) (by omega)
  have n1 := atGo_none l key 16 0 hnone (4 * b + 1) (by omega) (by omega) (by omega)
  obtain ⟨_, _, a1, a2⟩ := slot_range z0 r0.1 r0.2
  obtain ⟨_, _, c1, c2⟩ := slot_range z1 r1.1 r1.2
  have k0 := bucket_eq4 (k := slotKey (l.getD (4 * b) 0)) a1 a2
  have k1 := bucket_eq4 (k := slotKey (l.getD (4 * b + 1) 0)) c1 c2
  rw [Int.tdiv_eq_ediv_of_nonneg (by omega)] at i1 j1
  change 0 ≤ slotKey (l.getD (4 * b) 0) at a1
  change slotKey (l.getD (4 * b) 0) < 8 at a2
  change 0 ≤ slotKey (l.getD (4 * b + 1) 0) at c1
  change slotKey (l.getD (4 * b + 1) 0) < 8 at c2
  generalize slotKey (l.getD (4 * b) 0) = x at *
  generalize slotKey (l.getD (4 * b + 1) 0) = y at *
  omega
def zeroAt (l : List Int) : Nat → Nat → Nat
  | 0, i => i
  | m + 1, i => bif decide (l.getD i 0 = 0) then i else zeroAt l m (i + 1)
theorem zeroAt_lt (l : List Int) : ∀ (m i : Nat), (∃ j, i ≤ j ∧ j < i + m ∧ l.getD j 0 = 0) → i ≤ zeroAt l m i ∧ zeroAt l m i < i + m ∧ l.getD (zeroAt l m i) 0 = 0
  | 0, i, ⟨j, h1, h2, _⟩ => by omega
  | m + 1, i, ⟨j, h1, h2, h3⟩ => by
    by_cases e : l.getD i 0 = 0
    · have hz : zeroAt l (m + 1) i = i := by unfold zeroAt; simp only [e, decide_true, cond_true]
      rw [hz]; exact ⟨by omega, by omega, e⟩
    · have hz : zeroAt l (m + 1) i = zeroAt l m (i + 1) := by conv => lhs; unfold zeroAt; simp only [e, decide_false, cond_false]
      rw [hz]
      have hne : i ≠ j := fun e' => by subst e'; exact e h3
      obtain ⟨a, b, c⟩ := zeroAt_lt l m (i + 1) ⟨j, by omega, by omega, h3⟩
      exact ⟨by omega, by omega, c⟩
def slotPut (l : List Int) (a r : Int) : List Int × Int × Bool :=
  bif slotsOk l then (bif keyOk a then (bif valOk r then
    (bif decide (atOf l a < 0) then (l.set (zeroAt l (16 - (4 * bucket a).toNat) (4 * bucket a).toNat) (1 + a * 65536 + r), 0, true)
     else (l.set (atOf l a).toNat (1 + a * 65536 + r), (l.getD (atOf l a).toNat 0 - 1).tmod 65536 + 1, true))
    else (l, 0, false)) else (l, 0, false)) else (l, 0, false)
theorem slotPut_length (l : List Int) (a r : Int) : (slotPut l a r).1.length = l.length := by
  unfold slotPut
  cases slotsOk l <;> cases keyOk a <;> cases valOk r <;> cases decide (atOf l a < 0) <;> simp
theorem valOk_nn {x : Int} (h : valOk x = true) : 0 ≤ x ∧ x ≤ 65535 := by
  unfold valOk at h
  by_cases h1 : 0 ≤ x
  · simp only [h1, decide_true, cond_true, decide_eq_true_eq] at h; exact ⟨h1, h⟩
  · simp [h1] at h
theorem put_word {a r : Int} (ha : 0 ≤ a ∧ a ≤ 7) (hr : 0 ≤ r ∧ r ≤ 65535) : std.add .i64 (std.add .i64 1 (std.mul .i64 a 65536)) r = 1 + a * 65536 + r := by
  have w1 : IntKind.i64.wrap (a * 65536) = a * 65536 := i64_wrap (by omega) (by omega)
  have w2 : IntKind.i64.wrap (1 + a * 65536) = 1 + a * 65536 := i64_wrap (by omega) (by omega)
  have w3 : IntKind.i64.wrap (1 + a * 65536 + r) = 1 + a * 65536 + r := i64_wrap (by omega) (by omega)
  simp only [std_add, std_mul, w1, w2, w3]
theorem tmod_wrap {s : Int} (h1 : 1 ≤ s) (h2 : s ≤ 524288) : IntKind.i64.wrap ((s - 1).tmod 65536 + 1) = (s - 1).tmod 65536 + 1 := by
  have : (s - 1).tmod 65536 = (s - 1) % 65536 := Int.tmod_eq_emod_of_nonneg (by omega)
  rw [this]
  exact i64_wrap (by omega) (by omega)
theorem bucket_range {key : Int} (h : keyOk key = true) : 0 ≤ bucket key ∧ bucket key < 4 := by
  have h := keyOk_nn h
  rw [bucket_eq4 h.1 (by omega)]
  omega
def mapIn (m : List Int) : Nat → Nat → Bool
  | 0, _ => true
  | n + 1, i => bif decide (0 ≤ m.getD i 0 ∧ m.getD i 0 ≤ 65536) then mapIn m n (i + 1) else false
def fromGo (m : List Int) : Nat → Nat → List Int → List Int
  | 0, _, o => o
  | n + 1, i, o => bif decide (0 < m.getD i 0) then fromGo m n (i + 1) (slotPut o i (m.getD i 0 - 1)).1 else fromGo m n (i + 1) o
def slotsFrom (m : List Int) : List Int := bif decide (m.length = 8) then (bif mapIn m 8 0 then fromGo m 8 0 (List.replicate 16 0) else []) else []
theorem fromGo_length (m : List Int) : ∀ (n i : Nat) (o : List Int), (fromGo m n i o).length = o.length
  | 0, _, o => rfl
  | n + 1, i, o => by
    unfold fromGo
    cases decide (0 < m.getD i 0)
    · simp only [cond_false, fromGo_length]
    · simp only [cond_true, fromGo_length, slotPut_length]
def isMapB (m : List Int) : Bool := bif mapIn m m.length 0 then decide (m.length = 8) else false
theorem slotsFrom_length (m : List Int) : (slotsFrom m).length ≤ 16 := by
  unfold slotsFrom
  cases decide (m.length = 8) <;> cases mapIn m 8 0 <;> simp [fromGo_length]
def regOk (x : Int) : Bool := decide (0 ≤ x ∧ x ≤ 3)
def kOk (x : Int) : Bool := decide (0 ≤ x ∧ x ≤ 7)
def backV (key old : Int) : Int × Int × Int := bif old == 0 then (2, key, 0) else (1, key, IntKind.i64.wrap (old - 1))
def allVal (r : List Int) : Nat → Nat → Bool
  | 0, _ => true
  | n + 1, i => bif valOk (r.getD i 0) then allVal r n (i + 1) else false
def regsOk (r : List Int) : Bool := bif decide (r.length = 4) then allVal r 4 0 else false
theorem regsOk_len {r : List Int} (h : regsOk r = true) : r.length = 4 := by
  unfold regsOk at h
  by_cases e : r.length = 4
  · exact e
  · simp [e] at h
theorem inb4 {x : Int} (h : regOk x = true) : std.inb x 4 = true := by
  unfold regOk at h
  have := of_decide_eq_true h
  rw [std_inb]; exact decide_eq_true (by omega)
end X
