/- Models of the functions, or plain laws about them; each theorem states its own conditions. -/
import Derived.Test.YtnjfchckceaiiaaPNA
set_option linter.unusedVariables false
set_option linter.unusedSimpArgs false
open Go.Proofs
namespace X
open PM Go
theorem MapOf_go (l : List Int) (kx : List Int → R) : ∀ (m n i : Nat) (o : List Int), i + m = 8 → m < n → o.length ≤ i →
    impl_MapOf_l0 std (impl_SlotsOk std) (impl_SlotGet std) n l i o kx = kx (mapGo l m i o)
  | 0, n + 1, i, o, hi, hn, ho => by
    unfold impl_MapOf_l0
    have : std.lt (i : Int) 8 = false := by rw [show (8 : Int) = ((8 : Nat) : Int) from rfl, lt_nat]; simp; omega
    simp only [this, cond_false, mapGo]
  | m + 1, n + 1, i, o, hi, hn, ho => by
    unfold impl_MapOf_l0 mapGo
    have e1 : std.lt (i : Int) 8 = true := by rw [show (8 : Int) = ((8 : Nat) : Int) from rfl, lt_nat]; simp; omega
    have ih := fun x => MapOf_go l kx m n (i + 1) (o ++ [x]) (by omega) (by omega) (by simp; omega)
    have hroom : ∀ x : Int, std.room (std.ilen o) (std.ilen [x]) = true := fun x => by simp; omega
    simp only [e1, cond_true, SlotGet_eq, hroom, std_iapp, std_add, cast1 i (by omega), (ih _)]
    have z := slotGet_zero l i
    have ei : (i : Int) + 1 = ((i + 1 : Nat) : Int) := by omega
    rw [ei]
    cases hg : (slotGet l i).2
    · simp only [cond_false, z hg]
    · simp only [cond_true]
theorem MapOf_eq (l : List Int) (k : List Int → R) : impl_MapOf std l k = k (mapOf l) := by
  simp only [impl_MapOf, impl_MapOf_f, SlotsOk_eq, SlotsOk_val, mapOf]
  cases slotsOk l
  · rfl
  · simp only [std_not, Bool.not_true, cond_false, cond_true]
    generalize hN : std.fuel = N
    have hN : 4294967296 = N := hN
    exact (MapOf_go l (fun o => k o) 8 N 0 [] (by omega) (by omega) (by simp))
theorem isKey_val (x : Int) (k : Bool → R) : impl_isKey std x k = k (keyOk x) := by rw [isKey_eq]; exact key_val x k
theorem isValue_val (x : Int) (k : Bool → R) : impl_isValue std x k = k (valOk x) := by rw [isValue_eq]; exact val_val x k
theorem det_isKey (x : Int) : Det (impl_isKey std x) := ⟨keyOk x, isKey_val x⟩
theorem det_isValue (x : Int) : Det (impl_isValue std x) := ⟨valOk x, isValue_val x⟩
theorem det_UndoOk (a b c : Int) : Det (impl_UndoOk std a b c) := by
  refine det_bif (det_bif (det_k _) (det_k _)) (det_bif ?_ (det_bif ?_ (det_bif (det_bif ?_ (det_k _)) (det_k _))))
  · exact det_bind (det_isKey _) fun r => det_bif (det_isValue _) (det_k _)
  · exact det_bind (det_isKey _) fun r => det_bif (det_k _) (det_k _)
  · exact det_isValue _
noncomputable def undoOk (a b c : Int) : Bool := (det_UndoOk a b c).choose
theorem UndoOk_val (a b c : Int) (k : Bool → R) : impl_UndoOk std a b c k = k (undoOk a b c) := (det_UndoOk a b c).choose_spec k
noncomputable def undoOne (l : List Int) (c kd key v : Int) : List Int × Int × Bool :=
  bif shelfOk l c then (bif undoOk kd key v then
    (bif kd == 1 then ((slotPut l key v).1, c, true) else bif kd == 2 then ((slotDrop l key).1, c, true) else bif kd == 3 then (l, (IntKind.i64.wrap (IntKind.i64.wrap (c - v) + 65536)).tmod 65536, true) else (l, c, true))
    else (l, c, false)) else (l, c, false)
theorem UndoOne_eq (l : List Int) (h : l.length ≤ 2147483648) (c kd key v : Int) (k : List Int → Int → Bool → R) : impl_UndoOne std l c kd key v k = k (undoOne l c kd key v).1 (undoOne l c kd key v).2.1 (undoOne l c kd key v).2.2 := by
  have nz : std.nz 65536 = true := by simp
  simp only [impl_UndoOne, impl_UndoOne_f, impl_copyShelf, impl_copyShelf_f, copyInts_eq, l15Ints_eq l h, ShelfOk_eq, ShelfOk_val, UndoOk_val, (SlotPut_val l h _ _ _).2, SlotDrop_eq l h, std_eq, nz, cond_true, std_rem, std_add, std_sub, undoOne]
  cases shelfOk l c <;> cases undoOk kd key v <;> cases (kd == 1) <;> cases (kd == 2) <;> cases (kd == 3) <;> rfl
theorem undoOne_length (l : List Int) (c kd key v : Int) : (undoOne l c kd key v).1.length = l.length := by
  unfold undoOne
  cases shelfOk l c <;> cases undoOk kd key v <;> cases (kd == 1) <;> cases (kd == 2) <;> cases (kd == 3) <;> simp [slotPut_length, slotDrop_length]
noncomputable def undoGo (u : List (List Int)) : Nat → List Int × Int → List Int × Int
  | 0, s => s
  | m + 1, s => undoGo u m ((undoOne s.1 s.2 ((u.getD m []).getD 0 0) ((u.getD m []).getD 1 0) ((u.getD m []).getD 2 0)).1, (undoOne s.1 s.2 ((u.getD m []).getD 0 0) ((u.getD m []).getD 1 0) ((u.getD m []).getD 2 0)).2.1)
noncomputable def undoAll (l : List Int) (c : Int) (u : List (List Int)) : List Int × Int := undoGo u u.length (l, c)
theorem UndoAll_go (c91 : impl_copyShelf_T) (u : List (List Int)) (hu : u.length ≤ 2147483648) (kx' : Int → Int → List Int → List Int → R) : ∀ (m n : Nat) (s : List Int × Int), m ≤ u.length → m < n → s.1.length ≤ 2147483648 →
    (∀ x y, impl_UndoAll_l0 std c91 (impl_UndoOne std) n u ((m : Int) - 1) s.2 x s.1 y kx' = kx' (undoGo u m s).2 x (undoGo u m s).1 y)
  | 0, n + 1, s, hm, hn, hs => by
    have e1 : std.le 0 (((0 : Nat) : Int) - 1) = false := by simp
    intro x y
    unfold impl_UndoAll_l0
    simp only [e1, cond_false, undoGo]
  | m + 1, n + 1, s, hm, hn, hs => by
    have ei : ((m + 1 : Nat) : Int) - 1 = (m : Int) := by omega
    have e1 : std.le 0 (m : Int) = true := by rw [std_le]; exact decide_eq_true (by omega)
    have e2 : std.inb (m : Int) (u.length : Int) = true := by rw [inb_nat]; exact decide_eq_true (by omega)
    have es : std.sub .i64 (m : Int) 1 = (m : Int) - 1 := by rw [std_sub]; exact i64_wrap (by omega) (by omega)
    have ih := UndoAll_go c91 u hu kx' m n ((undoOne s.1 s.2 ((u.getD m []).getD 0 0) ((u.getD m []).getD 1 0) ((u.getD m []).getD 2 0)).1, (undoOne s.1 s.2 ((u.getD m []).getD 0 0) ((u.getD m []).getD 1 0) ((u.getD m []).getD 2 0)).2.1) (by omega) (by omega) (by simp only [undoOne_length]; exact hs)
    intro x y
    unfold impl_UndoAll_l0
    simp only [ei, std_vlen, e1, e2, cond_true, std_vget, Int.toNat_natCast, UndoOne_eq s.1 hs, es, undoGo]
    exact ih x y
theorem UndoAll_eq (l : List Int) (c : Int) (u : List (List Int)) (h : l.length ≤ 2147483648) (hu : u.length ≤ 2147483648) (k : List Int → Int → R) : impl_UndoAll std l c u k = k (undoAll l c u).1 (undoAll l c u).2 := by
  unfold impl_UndoAll impl_UndoAll_f
  have es : std.sub .i64 (u.length : Int) 1 = (u.length : Int) - 1 := by rw [std_sub]; exact i64_wrap (by omega) (by omega)
  simp only [impl_copyShelf, impl_copyShelf_f, copyInts_eq, l15Ints_eq l h, std_vlen, es]
  generalize hN : std.fuel = N
  have hN : 4294967296 = N := hN
  exact (UndoAll_go _ u hu _ u.length N (l, c) (by omega) (by omega) h) 0 []
end X
