/- Models of the functions, or plain laws about them; each theorem states its own conditions. -/
import Derived.Test.YtlcgddghildedaaPlC
set_option linter.unusedVariables false
set_option linter.unusedSimpArgs false
namespace X
open PM Go

/-! ## Data in data -/
theorem FitC_sl {cx : Cx} {u : TypeId} {c : C} (h : FitC cx (.sl u) c) {ty : Ty} {e : AK} {sh : List K} (hu : find cx u = some ty) (he : ty.elem = some e) (hs : shAK cx e = some sh) :
    (asRows c).length ≤ maxLen ∧ (∀ r ∈ asRows c, r.length = sh.length) ∧ ∀ i j, i < (asRows c).length → j < sh.length → FitC cx (sh.getD j .bool) (cOf (asRows c) i j) := by
  cases h with
  | sl _ ty' e' sh' _ h1 h2 h3 h4 h5 h6 h7 =>
    rw [hu] at h1; cases h1
    rw [he] at h3; cases h3
    rw [hs] at h4; cases h4
    exact ⟨h5, h6, h7⟩
theorem FitC_int {cx : Cx} {k : IntKind} {c : C} (h : FitC cx (.int k) c) : k.min ≤ asInt c ∧ asInt c ≤ k.max := by
  cases h with
  | int _ _ a b => exact ⟨a, b⟩
theorem mem_getD {α : Type} {l : List α} {x : α} (d : α) (h : x ∈ l) : ∃ i, i < l.length ∧ l.getD i d = x := by
  obtain ⟨i, hi, he⟩ := List.getElem_of_mem h
  exact ⟨i, hi, by rw [List.getD_eq_getElem?_getD, List.getElem?_eq_getElem hi, he]; rfl⟩
section
variable {cx : Cx} {t u : TypeId} {l : List (List C)} {sh : List K} {ty : Ty} {i j : Nat}
theorem fit_len (h : FitArr cx (.rows t l)) : l.length ≤ maxLen := h.1
theorem fit_cell (h : FitArr cx (.rows t l)) (hs : shAK cx (.rows t) = some sh) (hi : i < l.length) (hj : j < sh.length) : FitC cx (sh.getD j .bool) (cOf l i j) := (h.2 sh hs _ (getD_mem hi)).2 j hj
theorem fit_rint {k : IntKind} (h : FitArr cx (.rows t l)) (hs : shAK cx (.rows t) = some sh) (hi : i < l.length) (hj : j < sh.length) (hk : sh.getD j .bool = .int k) : k.min ≤ std.rint l (i : Int) j ∧ std.rint l (i : Int) j ≤ k.max := by
  have := fit_cell h hs hi hj
  rw [hk] at this
  exact FitC_int this
theorem fit_rsr {t' : TypeId} (h : FitArr cx (.rows t l)) (hs : shAK cx (.rows t) = some sh) (hi : i < l.length) (hj : j < sh.length) (hk : sh.getD j .bool = .sl u) (hu : find cx u = some ty) (he : ty.elem = some (.rows t')) :
    FitArr cx (.rows t' (std.rsr l (i : Int) j)) := by
  have hc := fit_cell h hs hi hj
  rw [hk] at hc
  have e1 : std.rsr l (i : Int) j = asRows (cOf l i j) := rfl
  rw [e1]
  cases hc with
  | sl _ ty' e' sh' _ h1 h2 h3 h4 h5 h6 h7 =>
    rw [hu] at h1; cases h1
    rw [he] at h3; cases h3
    refine ⟨h5, fun sh2 hs2 r hr => ?_⟩
    rw [h4] at hs2; cases hs2
    refine ⟨h6 r hr, fun q hq => ?_⟩
    obtain ⟨p, hp, rfl⟩ := mem_getD [] hr
    exact h7 p q hp hq
theorem fit_rsi {t' : TypeId} {k : IntKind} (h : FitArr cx (.rows t l)) (hs : shAK cx (.rows t) = some sh) (hi : i < l.length) (hj : j < sh.length) (hk : sh.getD j .bool = .sl u) (hu : find cx u = some ty) (he : ty.elem = some (.ints t' k)) :
    FitArr cx (.ints t' k (std.rsi l (i : Int) j)) := by
  have hc := fit_cell h hs hi hj
  rw [hk] at hc
  obtain ⟨h5, h6, h7⟩ := FitC_sl hc hu he (sh := [.int k]) rfl
  have e1 : std.rsi l (i : Int) j = (asRows (cOf l i j)).map fun r => asInt (cAt r 0) := rfl
  rw [e1]
  refine ⟨by rw [List.length_map]; exact h5, fun n hn => ?_⟩
  obtain ⟨r, hr, rfl⟩ := List.mem_map.1 hn
  obtain ⟨p, hp, rfl⟩ := mem_getD [] hr
  exact FitC_int (h7 p 0 hp (by simp))
theorem fit_rsv {t' : TypeId} {n : Nat} (h : FitArr cx (.rows t l)) (hs : shAK cx (.rows t) = some sh) (hi : i < l.length) (hj : j < sh.length) (hk : sh.getD j .bool = .sl u) (hu : find cx u = some ty) (he : ty.elem = some (.vecs t' n)) :
    FitArr cx (.vecs t' n (std.rsv n l (i : Int) j)) := by
  have hc := fit_cell h hs hi hj
  rw [hk] at hc
  obtain ⟨h5, h6, h7⟩ := FitC_sl hc hu he (sh := List.replicate n (.int .i64)) rfl
  have e1 : std.rsv n l (i : Int) j = (asRows (cOf l i j)).map fun r => (List.range n).map fun q => asInt (cAt r q) := rfl
  rw [e1]
  refine ⟨by rw [List.length_map]; exact h5, fun r hr => ?_⟩
  obtain ⟨r0, hr0, rfl⟩ := List.mem_map.1 hr
  refine ⟨by simp, fun x hx => ?_⟩
  obtain ⟨q, hq, rfl⟩ := List.mem_map.1 hx
  have hq := List.mem_range.1 hq
  obtain ⟨p, hp, rfl⟩ := mem_getD [] hr0
  have := h7 p q hp (by simpa using hq)
  rw [List.getD_eq_getElem?_getD, List.getElem?_replicate, if_pos hq] at this
  exact FitC_int this
theorem fit_rsb {t' : TypeId} (h : FitArr cx (.rows t l)) (hs : shAK cx (.rows t) = some sh) (hi : i < l.length) (hj : j < sh.length) (hk : sh.getD j .bool = .sl u) (hu : find cx u = some ty) (he : ty.elem = some (.bools t')) :
    FitArr cx (.bools t' (std.rsb l (i : Int) j)) := by
  have hc := fit_cell h hs hi hj
  rw [hk] at hc
  obtain ⟨h5, _, _⟩ := FitC_sl hc hu he (sh := [.bool]) rfl
  have e1 : std.rsb l (i : Int) j = (asRows (cOf l i j)).map fun r => asBool (cAt r 0) := rfl
  rw [e1]
  show (List.map _ _).length ≤ maxLen
  rw [List.length_map]; exact h5
/-! ### Cells made of data -/
theorem FitC_ofi {t' : TypeId} {k : IntKind} {x : List Int} (h : FitArr cx (.ints t' k x)) (hu : find cx u = some ty) (ha : ty.alen = none) (he : ty.elem = some (.ints t' k)) : FitC cx (.sl u) (.s (std.ofi x)) := by
  refine .sl u ty _ [.int k] _ hu ha he rfl ?_ ?_ ?_
  · show (List.map _ x).length ≤ maxLen; rw [List.length_map]; exact h.1
  · intro r hr
    obtain ⟨y, _, rfl⟩ := List.mem_map.1 (show r ∈ x.map fun n => [C.i n] from hr)
    rfl
  · intro i j hi hj
    have hi : i < x.length := by simpa [asRows, std] using hi
    have hj : j = 0 := by simp at hj; exact hj
    subst hj
    have e : cOf (asRows (.s (std.ofi x))) i 0 = .i x[i] := by
      show cAt ((x.map fun n => [C.i n]).getD i []) 0 = _
      rw [List.getD_eq_getElem?_getD, List.getElem?_map, List.getElem?_eq_getElem hi]; rfl
    rw [e]
    have := h.2 x[i] (List.getElem_mem hi)
    exact .int k _ this.1 this.2
theorem FitC_ofv {t' : TypeId} {n : Nat} {x : List (List Int)} (h : FitArr cx (.vecs t' n x)) (hu : find cx u = some ty) (ha : ty.alen = none) (he : ty.elem = some (.vecs t' n)) : FitC cx (.sl u) (.s (std.ofv x)) := by
  refine .sl u ty _ (List.replicate n (.int .i64)) _ hu ha he rfl ?_ ?_ ?_
  · show (List.map _ x).length ≤ maxLen; rw [List.length_map]; exact h.1
  · intro r hr
    obtain ⟨y, hy, rfl⟩ := List.mem_map.1 (show r ∈ x.map fun r => r.map C.i from hr)
    rw [List.length_map, (h.2 y hy).1, List.length_replicate]
  · intro i j hi hj
    have hi : i < x.length := by simpa [asRows, std] using hi
    have hj : j < n := by simpa using hj
    have hx := h.2 x[i] (List.getElem_mem hi)
    have e : cOf (asRows (.s (std.ofv x))) i j = .i (x[i].getD j 0) := by
      show cAt ((x.map fun r => r.map C.i).getD i []) j = _
      rw [List.getD_eq_getElem?_getD, List.getElem?_map, List.getElem?_eq_getElem hi]
      show cAt (x[i].map C.i) j = _
      unfold cAt
      rw [List.getD_eq_getElem?_getD, List.getElem?_map, List.getElem?_eq_getElem (by omega), List.getD_eq_getElem?_getD, List.getElem?_eq_getElem (by omega)]; rfl
    rw [e, List.getD_eq_getElem?_getD, List.getElem?_replicate, if_pos hj]
    have := hx.2 (x[i].getD j 0) (getD_mem (by omega))
    exact .int _ _ this.1 this.2
theorem FitC_ofb {t' : TypeId} {x : List Bool} (h : FitArr cx (.bools t' x)) (hu : find cx u = some ty) (ha : ty.alen = none) (he : ty.elem = some (.bools t')) : FitC cx (.sl u) (.s (std.ofb x)) := by
  refine .sl u ty _ [.bool] _ hu ha he rfl ?_ ?_ ?_
  · show (List.map _ x).length ≤ maxLen; rw [List.length_map]; exact h
  · intro r hr
    obtain ⟨y, _, rfl⟩ := List.mem_map.1 (show r ∈ x.map fun n => [C.b n] from hr)
    rfl
  · intro i j hi hj
    have hj : j = 0 := by simp at hj; exact hj
    subst hj
    exact .bool _
theorem FitC_rows {t' : TypeId} {x : List (List C)} {sh' : List K} (h : FitArr cx (.rows t' x)) (hu : find cx u = some ty) (ha : ty.alen = none) (he : ty.elem = some (.rows t')) (hs : shAK cx (.rows t') = some sh') : FitC cx (.sl u) (.s x) :=
  .sl u ty _ sh' _ hu ha he hs h.1 (fun r hr => (h.2 sh' hs r hr).1) (fun i j hi hj => (h.2 sh' hs _ (getD_mem hi)).2 j hj)
/-- A loop that fills rows. -/
theorem fit_fill {row : Nat → List C} {n : Nat} (hn : n ≤ maxLen) (hs : shAK cx (.rows t) = some sh) (hr : ∀ i, i < n → (row i).length = sh.length ∧ ∀ j, j < sh.length → FitC cx (sh.getD j .bool) (cAt (row i) j)) :
    FitArr cx (.rows t ((List.range n).map row)) := by
  refine ⟨by simpa using hn, fun sh' hs' r hr' => ?_⟩
  rw [hs] at hs'; cases hs'
  obtain ⟨i, hi, rfl⟩ := List.mem_map.1 hr'
  exact hr i (List.mem_range.1 hi)
end
/-- Filling from the left. -/
theorem fill_step {α : Type} (row : Nat → α) (z : α) (n i : Nat) (hi : i < n) : ((List.range i).map row ++ List.replicate (n - i) z).set i (row i) = (List.range (i + 1)).map row ++ List.replicate (n - (i + 1)) z := by
  rw [List.set_append_right _ _ (by simp), List.length_map, List.length_range, Nat.sub_self, List.range_succ, List.map_append, List.append_assoc]
  congr 1
  obtain ⟨m, hm⟩ : ∃ m, n - i = m + 1 := ⟨n - i - 1, by omega⟩
  rw [hm, show n - (i + 1) = m by omega]
  rfl
/-- A loop that fills a slice. -/
theorem loop_fill {α : Type} (row : Nat → α) (z : α) {len : Nat} {F : Nat → Int → List α → R} {kx : List α → R} {N : Nat} (hN : len < N)
    (hs : ∀ n i o, i < len → o.length = len → F (n + 1) ((i : Nat) : Int) o = F n ((i + 1 : Nat) : Int) (o.set i (row i))) (he : ∀ n o, F (n + 1) (len : Int) o = kx o) :
    F N 0 (List.replicate len z) = kx ((List.range len).map row) := by
  have key : ∀ (m i n : Nat), i + m = len → m < n → F n (i : Int) ((List.range i).map row ++ List.replicate m z) = kx ((List.range len).map row) := by
    intro m
    induction m with
    | zero =>
      intro i n h1 h2
      obtain ⟨n, rfl⟩ : ∃ q, n = q + 1 := ⟨n - 1, by omega⟩
      have : i = len := by omega
      subst this
      rw [he, List.replicate_zero, List.append_nil]
    | succ m ih =>
      intro i n h1 h2
      obtain ⟨n, rfl⟩ : ∃ q, n = q + 1 := ⟨n - 1, by omega⟩
      rw [hs n i _ (by omega) (by simp; omega)]
      have := fill_step row z (i + (m + 1)) i (by omega)
      rw [show i + (m + 1) - i = m + 1 by omega, show i + (m + 1) - (i + 1) = m by omega] at this
      rw [this]
      exact ih (i + 1) n (by omega) (by omega)
  exact key len 0 N (by omega) hN
/-- A loop that finds nothing amiss. -/
theorem loop_true {len : Nat} {F : Nat → Int → R} {y : R} {N : Nat} (hN : len < N) (hs : ∀ n i, i < len → F (n + 1) ((i : Nat) : Int) = F n ((i + 1 : Nat) : Int)) (he : ∀ n, F (n + 1) (len : Int) = y) : F N 0 = y := by
  have key : ∀ (m i n : Nat), i + m = len → m < n → F n (i : Int) = y := by
    intro m
    induction m with
    | zero =>
      intro i n h1 h2
      obtain ⟨n, rfl⟩ : ∃ q, n = q + 1 := ⟨n - 1, by omega⟩
      have : i = len := by omega
      subst this
      exact he n
    | succ m ih =>
      intro i n h1 h2
      obtain ⟨n, rfl⟩ : ∃ q, n = q + 1 := ⟨n - 1, by omega⟩
      rw [hs n i (by omega)]
      exact ih (i + 1) n (by omega) (by omega)
  exact key len 0 N (by omega) hN
/-- A loop that takes from a measure. -/
theorem loop_left {len : Nat} {F : (Int → R) → Nat → Int → Int → R} {P : Nat → Prop} {N : Nat} (hN : len < N)
    (hs : ∀ i left, i < len → 0 ≤ left → left ≤ 1048576 → ∃ v, v ≤ left ∧ (0 ≤ v → P i) ∧ ∀ k n, F k (n + 1) ((i : Nat) : Int) left = bif std.lt v 0 then k (-1) else F k n ((i + 1 : Nat) : Int) v) (he : ∀ k n left, F k (n + 1) (len : Int) left = k left)
    (left : Int) (h0 : 0 ≤ left) (h1 : left ≤ 1048576) : ∃ v, v ≤ left ∧ (0 ≤ v → ∀ i, i < len → P i) ∧ ∀ k, F k N 0 left = k v := by
  have key : ∀ (m i n : Nat) (left : Int), i + m = len → m < n → 0 ≤ left → left ≤ 1048576 → ∃ v, v ≤ left ∧ (0 ≤ v → ∀ j, i ≤ j → j < len → P j) ∧ ∀ k, F k n (i : Int) left = k v := by
    intro m
    induction m with
    | zero =>
      intro i n left h1 h2 h3 h4
      obtain ⟨n, rfl⟩ : ∃ q, n = q + 1 := ⟨n - 1, by omega⟩
      have : i = len := by omega
      subst this
      exact ⟨left, Int.le_refl _, fun _ j h5 h6 => by omega, fun k => he k n left⟩
    | succ m ih =>
      intro i n left h1 h2 h3 h4
      obtain ⟨n, rfl⟩ : ∃ q, n = q + 1 := ⟨n - 1, by omega⟩
      obtain ⟨v, hv1, hv2, hv⟩ := hs i left (by omega) h3 h4
      by_cases hc : v < 0
      · refine ⟨-1, by omega, fun h => by omega, fun k => ?_⟩
        rw [hv, show std.lt v 0 = true from decide_eq_true hc]
        rfl
      · obtain ⟨u, hu1, hu2, hu⟩ := ih (i + 1) n v (by omega) (by omega) (by omega) (by omega)
        refine ⟨u, by omega, fun h j h5 h6 => ?_, fun k => ?_⟩
        · by_cases e : j = i
          · subst e; exact hv2 (by omega)
          · exact hu2 h j (by omega) h6
        · rw [hv, show std.lt v 0 = false from decide_eq_false hc]
          exact hu k
  obtain ⟨v, a, b, c⟩ := key len 0 N left (by omega) hN h0 h1
  exact ⟨v, a, fun h i hi => b h i (Nat.zero_le _) hi, c⟩
/-! ### Reading what was made -/
theorem cOf_fill (row : Nat → List C) {n i : Nat} (hi : i < n) (j : Nat) : cOf ((List.range n).map row) i j = cAt (row i) j := by
  unfold cOf
  rw [List.getD_eq_getElem?_getD, List.getElem?_map, List.getElem?_range hi]
  rfl
theorem map_id' {α : Type} {f : α → α} {l : List α} (h : ∀ x ∈ l, f x = x) : l.map f = l := by
  induction l with
  | nil => rfl
  | cons a l ih => rw [List.map_cons, h a (by simp), ih (fun x hx => h x (by simp [hx]))]
theorem rsi_cell (x : List Int) : ((asRows (.s (std.ofi x))).map fun r => asInt (cAt r 0)) = x := by
  show ((x.map fun n => [C.i n]).map _) = x
  rw [List.map_map]
  exact map_id' fun _ _ => rfl
theorem rsb_cell (x : List Bool) : ((asRows (.s (std.ofb x))).map fun r => asBool (cAt r 0)) = x := by
  show ((x.map fun n => [C.b n]).map _) = x
  rw [List.map_map]
  exact map_id' fun _ _ => rfl
theorem rsv_cell {n : Nat} {x : List (List Int)} (h : ∀ r ∈ x, r.length = n) : ((asRows (.s (std.ofv x))).map fun r => (List.range n).map fun q => asInt (cAt r q)) = x := by
  show ((x.map fun r => r.map C.i).map _) = x
  rw [List.map_map]
  refine map_id' fun r hr => ?_
  have hl := h r hr
  apply List.ext_getElem (by simp [hl])
  intro i h1 h2
  simp only [Function.comp, List.getElem_map, List.getElem_range]
  unfold cAt
  rw [List.getD_eq_getElem?_getD, List.getElem?_map, List.getElem?_eq_getElem h2]
  rfl
theorem rsv_wide (n : Nat) (l : List (List C)) (i : Int) (j : Nat) : ∀ r ∈ std.rsv n l i j, r.length = n := by
  intro r hr
  obtain ⟨r0, _, rfl⟩ := List.mem_map.1 (show r ∈ (asRows (cOf l i.toNat j)).map fun r => (List.range n).map fun q => asInt (cAt r q) from hr)
  simp
theorem bt {α : Type} (a b : α) : (bif true then a else b) = a := Eq.trans (id rfl) rfl
theorem bf {α : Type} (a b : α) : (bif false then a else b) = b := Eq.trans (id rfl) rfl
theorem lt0_t {v : Int} (h : v < 0) : std.lt v 0 = true := decide_eq_true h
theorem lt0_f {v : Int} (h : ¬ v < 0) : std.lt v 0 = false := decide_eq_false h
theorem range_getD {α : Type} (a : List α) (d : α) : (List.range a.length).map (fun i => a.getD i d) = a := by
  apply List.ext_getElem (by simp)
  intro i h1 h2
  simp [List.getD_eq_getElem?_getD, h2]
end X
