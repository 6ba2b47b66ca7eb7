/- Models of the functions, or plain laws about them; each theorem states its own conditions. -/
import Derived.Test.YtnkgcegeinemjaaQ8
import Derived.Test.YtnkgcegeinemjaaQF
set_option linter.unusedVariables false
set_option linter.unusedSimpArgs false
open Go.Proofs
namespace X
open PM Go

/-! ## Rows, read off from their end -/
theorem foldF_list {S : Type} (g : List Int → S → S) : ∀ (suf pre : List (List Int)) (s : S), foldF (fun i s => g ((pre ++ suf).getD i []) s) suf.length pre.length s = suf.foldl (fun s r => g r s) s
  | [], pre, s => rfl
  | r :: suf, pre, s => by
    have e : (pre ++ r :: suf).getD pre.length [] = r := by simp [List.getD_eq_getElem?_getD]
    have h := foldF_list g suf (pre ++ [r]) (g r s)
    rw [List.append_assoc, List.singleton_append, List.length_append, List.length_singleton] at h
    rw [List.length_cons, List.foldl_cons, ← h]
    show foldF _ suf.length (pre.length + 1) (g ((pre ++ r :: suf).getD pre.length []) s) = _
    rw [e]
theorem foldB_list {S : Type} (g : List Int → S → S) (l : List (List Int)) (s : S) : foldB (fun i s => g (l.getD i []) s) l.length s = l.foldl (fun s r => g r s) s := foldF_list g l [] s
def cellR (r : List Int) : Int := r.getD 0 0
def valR (r : List Int) : Int := r.getD 1 0
def ls (c : Int) (a : Option Int) (r : List Int) : Option Int := bif cellR r == c then some (valR r) else a
def lst (l : List (List Int)) (c : Int) : Option Int := l.foldl (ls c) none
def ov (o : List Int) (r : List Int) : List Int := o.set (cellR r).toNat (valR r)
def ovl (v : List Int) (l : List (List Int)) : List Int := l.foldl ov v
theorem take_snoc (l : List (List Int)) {m : Nat} (h : m < l.length) : l.take (m + 1) = l.take m ++ [l.getD m []] := by
  rw [List.take_add_one, List.getD_eq_getElem?_getD, List.getElem?_eq_getElem h]; rfl
theorem lastF_take (l : List (List Int)) (c : Int) : ∀ m, m ≤ l.length → (lastF l c m).map (fun j => fld l j 1) = (l.take m).foldl (ls c) none
  | 0, _ => by simp [lastF]
  | m + 1, h => by
    rw [take_snoc l (by omega), List.foldl_append, ← lastF_take l c m (by omega)]
    show (bif fld l m 0 == c then some m else lastF l c m).map _ = (bif fld l m 0 == c then some (fld l m 1) else _)
    cases fld l m 0 == c <;> rfl
theorem last_lst {l : List (List Int)} (h : rowsOk l = true) (c : Int) : last l c = lst l c := by
  unfold last lst
  rw [h, cond_true, lastF_take l c l.length (Nat.le_refl _), List.take_length]
def Rok (r : List Int) : Prop := (0 ≤ cellR r ∧ cellR r ≤ 7) ∧ (0 ≤ valR r ∧ valR r ≤ 65535)
theorem rows_rok {l : List (List Int)} (h : rowsOk l = true) : ∀ r ∈ l, Rok r := by
  intro r hr
  obtain ⟨i, hi, e⟩ := List.getElem_of_mem hr
  have := (rowsOk_spec h).2 i hi
  have e2 : l.getD i [] = r := by rw [List.getD_eq_getElem?_getD, List.getElem?_eq_getElem hi, Option.getD_some, e]
  unfold fld at this
  rw [e2] at this
  exact this
theorem rok_rows {l : List (List Int)} (hl : l.length ≤ 300) (h : ∀ r ∈ l, Rok r) : rowsOk l = true := by
  unfold rowsOk
  rw [Bool.and_eq_true]
  refine ⟨decide_eq_true (by omega), allB_iff.2 fun j hj => ?_⟩
  have := h (l.getD j []) (by rw [List.getD_eq_getElem?_getD, List.getElem?_eq_getElem hj]; exact List.getElem_mem hj)
  unfold rowOk
  rw [Bool.and_eq_true]
  exact ⟨decide_eq_true this.1, decide_eq_true this.2⟩
theorem ls_from : ∀ (l : List (List Int)) (c : Int) (a : Option Int) (w : Int), l.foldl (ls c) a = some w → a = some w ∨ ∃ r ∈ l, cellR r = c ∧ valR r = w
  | [], c, a, w, h => .inl h
  | r :: l, c, a, w, h => by
    rcases ls_from l c (ls c a r) w h with e | ⟨r', h1, h2⟩
    · unfold ls at e
      by_cases hc : cellR r = c
      · rw [show (cellR r == c) = true from by rw [hc]; exact beq_self_eq_true c, cond_true] at e
        cases e
        exact .inr ⟨r, by simp, hc, rfl⟩
      · rw [show (cellR r == c) = false from beq_eq_false_iff_ne.2 hc, cond_false] at e
        exact .inl e
    · exact .inr ⟨r', by simp [h1], h2⟩
theorem ls_some : ∀ (l : List (List Int)) (c : Int) (a : Option Int), (l.foldl (ls c) a).isSome = (a.isSome || l.any (fun r => cellR r == c))
  | [], c, a => by simp
  | r :: l, c, a => by
    rw [List.foldl_cons, ls_some l c, List.any_cons]
    unfold ls
    cases cellR r == c <;> simp
theorem ov_get : ∀ (l : List (List Int)) (v : List Int) (a : Option Int) (w : Int) (j : Nat), (∀ r ∈ l, 0 ≤ cellR r) → j < v.length → v.getD j 0 = a.getD w →
    (l.foldl ov v).getD j 0 = (l.foldl (ls (j : Int)) a).getD w
  | [], v, a, w, j, _, _, h => h
  | r :: l, v, a, w, j, hr, hj, h => by
    rw [List.foldl_cons, List.foldl_cons]
    refine ov_get l _ _ w j (fun r h => hr r (by simp [h])) (by unfold ov; rw [List.length_set]; exact hj) ?_
    have h0 := hr r (by simp)
    unfold ov ls
    by_cases hc : cellR r = j
    · have e : (cellR r).toNat = j := by omega
      rw [show (cellR r == (j : Int)) = true from by rw [hc]; exact beq_self_eq_true _, cond_true, e, List.getD_eq_getElem?_getD, List.getElem?_set_self hj]; rfl
    · have e : (cellR r).toNat ≠ j := by omega
      rw [show (cellR r == (j : Int)) = false from beq_eq_false_iff_ne.2 hc, cond_false, List.getD_eq_getElem?_getD, List.getElem?_set_ne e, ← List.getD_eq_getElem?_getD]; exact h
theorem ovl_length : ∀ (l : List (List Int)) (v : List Int), (ovl v l).length = v.length
  | [], v => rfl
  | r :: l, v => by
    show (ovl (ov v r) l).length = _
    rw [ovl_length l]; unfold ov; rw [List.length_set]
theorem ovl_get {l : List (List Int)} (h : rowsOk l = true) {v : List Int} {j : Nat} (hj : j < v.length) : (ovl v l).getD j 0 = (last l (j : Int)).getD (v.getD j 0) := by
  rw [last_lst h]
  exact ov_get l v none _ j (fun r hr => (rows_rok h r hr).1.1) hj rfl
theorem last_val {l : List (List Int)} (h : rowsOk l = true) {c w : Int} (e : last l c = some w) : 0 ≤ w ∧ w ≤ 65535 := by
  rw [last_lst h] at e
  rcases ls_from l c none w e with e | ⟨r, h1, h2, h3⟩
  · cases e
  · rw [← h3]; exact (rows_rok h r h1).2
theorem net_rok {l : List (List Int)} (h : rowsOk l = true) : ∀ r ∈ net l, Rok r := by
  refine foldB_inv (f := netStep l) (fun i o => ∀ r ∈ o, Rok r) (fun _ h => by cases h) fun i o hi ho => ?_
  unfold netStep
  cases e : last l (i : Int) with
  | none => exact ho
  | some v =>
    intro r hr
    rcases List.mem_append.1 hr with hr | hr
    · exact ho r hr
    · rw [List.mem_singleton] at hr; subst hr
      exact ⟨⟨Int.natCast_nonneg i, by show (i : Int) ≤ 7; omega⟩, last_val h e⟩
theorem net_rows {l : List (List Int)} (h : rowsOk l = true) : rowsOk (net l) = true := rok_rows (by have := (net_inv l).1; omega) (net_rok h)
theorem net_lst (l : List (List Int)) (c : Int) : lst (net l) c = if 0 ≤ c ∧ c < 8 then last l c else none := by
  refine foldB_inv (f := netStep l) (len := 8) (s := []) (fun i o => lst o c = if 0 ≤ c ∧ c < (i : Int) then last l c else none) ?_ fun i o hi ho => ?_
  · rw [if_neg (by omega)]; rfl
  · unfold netStep
    cases e : last l (i : Int) with
    | none =>
      show lst o c = _
      rw [ho]
      by_cases hc : c = i
      · subst hc
        rw [if_neg (by omega), if_pos (by omega), e]
      · by_cases h2 : 0 ≤ c ∧ c < (i : Int)
        · rw [if_pos h2, if_pos (by omega)]
        · rw [if_neg h2, if_neg (by omega)]
    | some v =>
      show lst (o ++ [[(i : Int), v]]) c = _
      unfold lst at ho ⊢
      rw [List.foldl_append, ho]
      show (bif (i : Int) == c then some v else _) = _
      by_cases hc : (i : Int) = c
      · subst hc
        rw [beq_self_eq_true, cond_true, if_pos (by omega), e]
      · rw [show ((i : Int) == c) = false from beq_eq_false_iff_ne.2 hc, cond_false]
        by_cases h2 : 0 ≤ c ∧ c < (i : Int)
        · rw [if_pos h2, if_pos (by omega)]
        · rw [if_neg h2, if_neg (by omega)]
theorem net_last {l : List (List Int)} (h : rowsOk l = true) {c : Nat} (hc : c < 8) : last (net l) (c : Int) = last l (c : Int) := by
  rw [last_lst (net_rows h), net_lst, if_pos (by omega)]
theorem foldF_congr {S : Type} {f g : Nat → S → S} : ∀ (m i : Nat) (s : S), (∀ j s, j < i + m → f j s = g j s) → foldF f m i s = foldF g m i s
  | 0, i, s, h => rfl
  | m + 1, i, s, h => by
    show foldF f m (i + 1) (f i s) = foldF g m (i + 1) (g i s)
    rw [h i s (by omega)]
    exact foldF_congr m (i + 1) _ fun j s hj => h j s (by omega)
theorem net_net {l : List (List Int)} (h : rowsOk l = true) : net (net l) = net l :=
  foldF_congr 8 0 [] fun j s hj => by unfold netStep; rw [net_last h (by omega)]
theorem cellsOf_map (n : List (List Int)) : cellsOf n = n.map cellR := by
  have h : ∀ (l : List (List Int)) (o : List Int), l.foldl (fun s r => s ++ [cellR r]) o = o ++ l.map cellR := by
    intro l
    induction l with
    | nil => intro o; simp
    | cons r l ih => intro o; rw [List.foldl_cons, ih]; simp
  have := foldB_list (fun r s => s ++ [cellR r]) n []
  rw [h, List.nil_append] at this
  exact this
def hasB (l : List Int) (x : Int) : Bool := !allB (fun i => !(nth0 l i == x)) l.length
theorem has_val (l : List Int) (hb : l.length ≤ 2147483648) (x : Int) (k : Bool → R) : laws_has std l x k = k (hasB l x) := by
  unfold laws_has laws_has_f hasB
  generalize hN : std.fuel = N
  have hN : 4294967296 = N := hN
  have lp : laws_has_l0 std N l x 0 (fun t => k t) (fun _ => k false) = bif allB (fun i => !(nth0 l i == x)) l.length then k false else k true := by
    refine loop_all0 (F := fun n i => laws_has_l0 std n l x i (fun t => k t) (fun _ => k false)) (by omega) (fun n i hi => ?_) (fun n => ?_)
    · simp only [laws_has_l0, std_ilen, lt_nat_t hi, inb_nat_t hi, bt, iget_nat, std_eq, add1 (i := i) (by omega)]
      cases nth0 l i == x <;> rfl
    · simp only [laws_has_l0, std_ilen, lt_nat_f (Nat.le_refl _), bf]
  rw [lp]
  cases allB (fun i => !(nth0 l i == x)) l.length <;> rfl
theorem has_cells {l : List (List Int)} (c : Nat) (hc : c < 8) : hasB (cellsOf (net l)) (c : Int) = (last l (c : Int)).isSome := by
  have e : (last l (c : Int)) = lst (net l) (c : Int) := by rw [net_lst, if_pos (by omega)]
  rw [e, cellsOf_map]
  unfold lst hasB
  rw [ls_some, Option.isSome_none, Bool.false_or, Bool.eq_iff_iff, List.any_eq_true]
  rw [Bool.not_eq_true', ← Bool.not_eq_true, allB_iff]
  constructor
  · intro h
    apply Classical.byContradiction
    intro hn
    refine h fun j hj => ?_
    rw [List.length_map] at hj
    have hm : (net l)[j] ∈ net l := List.getElem_mem hj
    have hx : ¬ (cellR (net l)[j] == (c : Int)) = true := fun hx => hn ⟨_, hm, hx⟩
    unfold nth0
    rw [List.getD_eq_getElem?_getD, List.getElem?_map, List.getElem?_eq_getElem hj]
    simpa using hx
  · rintro ⟨r, hr, hx⟩ h
    obtain ⟨j, hj, e⟩ := List.getElem_of_mem hr
    have := h j (by rw [List.length_map]; exact hj)
    unfold nth0 at this
    rw [List.getD_eq_getElem?_getD, List.getElem?_map, List.getElem?_eq_getElem hj, e] at this
    simp at this hx
    exact this hx
end X
