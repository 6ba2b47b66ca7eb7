/- Models of the functions, or plain laws about them; each theorem states its own conditions. -/
import Derived.Test.YtlcgddghildedaaSpSrt
import Derived.Test.YtlcgddghildedaaSrt
set_option linter.unusedVariables false
set_option linter.unusedSimpArgs false
namespace PM
open Go Go.Proofs Go.Sort RowKit

/-! ## Rows, sorted by their first number -/
abbrev OC := { v : Value // v.oneCell' = true }
instance : Inhabited OC := ⟨⟨.bool false, rfl⟩⟩
abbrev Wr := Fin 1048576 × OC × OC × Nat
def encW (x : Wr) : List Value := [.int .i64 ((x.1 : Nat) : Int), x.2.1.1, x.2.2.1.1]
def cmpW (x y : Wr) : Int := ((x.1 : Nat) : Int) - ((y.1 : Nat) : Int)
theorem encW_one (x : Wr) : ∀ v ∈ encW x, v.oneCell' = true := by
  intro v hv
  simp only [encW, List.mem_cons, List.not_mem_nil, or_false] at hv
  rcases hv with rfl | rfl | rfl
  · rfl
  · exact x.2.1.2
  · exact x.2.2.1.2
theorem cmpW_lt (x y : Wr) : ltOf cmpW x y = true ↔ (x.1 : Nat) < y.1 := by
  unfold ltOf cmpW
  simp only [decide_eq_true_eq]
  omega
theorem cmpW_f {x y : Wr} : ltOf cmpW x y = false ↔ ¬ (x.1 : Nat) < y.1 := by
  rw [← cmpW_lt]; cases ltOf cmpW x y <;> simp
theorem swoW : SWO (ltOf cmpW) where
  irrefl x := cmpW_f.2 (Nat.lt_irrefl _)
  trans x y z h1 h2 := (cmpW_lt _ _).2 (Nat.lt_trans ((cmpW_lt _ _).1 h1) ((cmpW_lt _ _).1 h2))
  ntrans x y z h1 h2 := cmpW_f.2 (by have h1 := cmpW_f.1 h1; have h2 := cmpW_f.1 h2; omega)
def keyW (r : List C) : Int := asInt (cAt r 0)
theorem keyW_ext : ∀ {a b : List (List C)}, a.Pairwise (fun r s => keyW r < keyW s) → b.Pairwise (fun r s => keyW r < keyW s) → (∀ x, x ∈ a ↔ x ∈ b) → a = b
  | [], [], _, _, _ => rfl
  | [], y :: b, _, _, h => by
    have := (h y).2 (by simp)
    cases this
  | x :: a, [], _, _, h => by
    have := (h x).1 (by simp)
    cases this
  | x :: a, y :: b, ha, hb, h => by
    have hx := List.pairwise_cons.1 ha
    have hy := List.pairwise_cons.1 hb
    have e : x = y := by
      have h1 := (h x).1 (by simp)
      have h2 := (h y).2 (by simp)
      rcases List.mem_cons.1 h1 with h1 | h1
      · exact h1
      · rcases List.mem_cons.1 h2 with h2 | h2
        · exact h2.symm
        · have := hy.1 x h1; have := hx.1 y h2; omega
    subst e
    rw [keyW_ext hx.2 hy.2 fun z => ?_]
    constructor
    · intro hz
      have := (h z).1 (by simp [hz])
      rcases List.mem_cons.1 this with r | r
      · subst r; have := hx.1 z hz; omega
      · exact r
    · intro hz
      have := (h z).2 (by simp [hz])
      rcases List.mem_cons.1 this with r | r
      · subst r; have := hy.1 z hz; omega
      · exact r
def SrtOkW (l m : List (List C)) : Prop := m.Perm l ∧ m.Pairwise (fun r s => keyW r < keyW s) ∧ l.length ≤ 2147483648 ∧ ∀ r ∈ l, 0 ≤ keyW r ∧ keyW r < 1048576
open Classical in
noncomputable def srtW (l : List (List C)) (k : List (List C) → R) : R := if h : ∃ m, SrtOkW l m then k (Classical.choose h) else none
theorem srtW_eq {l m : List (List C)} (h : SrtOkW l m) (k : List (List C) → R) : srtW l k = k m := by
  have he : ∃ m, SrtOkW l m := ⟨m, h⟩
  unfold srtW
  rw [dif_pos he]
  have hc := Classical.choose_spec he
  rw [keyW_ext hc.2.1 h.2.1 fun x => (hc.1.mem_iff).trans h.1.mem_iff.symm]
theorem flatW_get (D : List Wr) (i j : Nat) (hi : i < D.length) (hj : j < 3) : (flatK encW 3 D.toArray)[i * 3 + j]? = (encW (D.getD i default))[j]? := by
  have lt : i * 3 + j < (D.toArray).size * 3 := by simp; omega
  have e1 : (i * 3 + j) / 3 = i := by omega
  have e2 : (i * 3 + j) % 3 = j := by omega
  have h := get_flatK encW 3 D.toArray (i * 3 + j) lt
  rw [e1, e2] at h
  have : D.toArray[i]! = D.getD i default := by
    rw [getElem!_pos _ i (by simpa using hi)]; simp [List.getD_eq_getElem?_getD, hi]
  rw [this] at h
  have hl : j < (encW (D.getD i default)).length := hj
  rw [Array.getElem?_eq_getElem (by rw [size_flatK]; exact lt), ← getElem!_pos, h, List.getElem?_eq_getElem hl, getElem!_pos _ j hl]

section
variable {P : Program} {cx : Cx} {ρ : Shelf.Ren}
theorem sortW_rows (L : SlLaysF0.n6 P ρ) (aE : ∀ w, (isAgg (ρ.t 24)).run P w = .ok true w) (zE : ∀ w, (Go.sizeOf (ρ.t 24)).run P w = .ok 3 w) {g : Nat} (eg : ∀ args w, (callFunc g args).run P w = .ok (.enter g args) w)
    (hcmp : ∀ (x y : Wr) (W : World), Calls P g #[.agg (encW x).toArray, .agg (encW y).toArray] W fun e w' => e = .returned (.int .i64 (cmpW x y)) ∧ ∃ q os', w' = grow (W.drewN q) os')
    (hnil : ∀ w, Calls P (ρ.f 6) #[.slice none 0 0, .func (.func g) #[] #[]] w fun e w' => e = .returned (.tuple #[]) ∧ Below w.heap.size w w') {t : TypeId} {u : TypeId} (hsh : shAK cx (.rows t) = some [.int .i64, .int .i64, .sl u]) {G : List V → (V → R) → R}
    (hG : ∀ ds k r, G ds k = some r → ∃ s, ds = [.arr (.rows t s)] ∧ srtW s (fun o => k (.arr (.rows t o))) = some r) : SrtRows P cx (ρ.f 6) g G := by
  intro t' l k r h
  obtain ⟨s, hs0, h1⟩ := hG _ k r h
  simp only [List.cons.injEq, V.arr.injEq, Arr.rows.injEq, and_true] at hs0
  obtain ⟨rfl, rfl⟩ := hs0
  unfold srtW at h1
  split at h1
  case isFalse => cases h1
  rename_i hex
  have hm := Classical.choose_spec hex
  generalize Classical.choose hex = m at h1 hm
  obtain ⟨m1, m2, m4, m5⟩ := hm
  refine ⟨m, h1, m1.length_eq, fun sh hsh' w v xs hrow hint hone => ?_⟩
  rw [hsh] at hsh'
  obtain rfl := Option.some.inj hsh'
  have h3 : [K.int .i64, .int .i64, .sl u].length = 3 := rfl
  simp only [h3] at hrow hint hone ⊢
  rcases hrow.2 with ⟨rfl, hn⟩ | ⟨b0, cap, cur, rfl, _⟩
  · refine (hnil w).mono fun e w' hq => ⟨hq.1, ?_, xs, ⟨hrow.1, .inl ⟨rfl, hn⟩⟩, id, fun i hi => by omega⟩
    have hb := hq.2
    exact ⟨hb.os, hb.tape, hb.output, hb.size, fun b hb' _ => hb.block b hb'⟩
  · -- the rows as pairs of a number and what goes with it
    have hkey : ∀ i, i < l.length → 0 ≤ keyW (l.getD i []) ∧ keyW (l.getD i []) < 1048576 := fun i hi => m5 _ (by rw [List.getD_eq_getElem?_getD, List.getElem?_eq_getElem hi]; exact List.getElem_mem hi)
    let el : Nat → Wr := fun i => (⟨(keyW (l.getD i [])).toNat % 1048576, Nat.mod_lt _ (by omega)⟩, (if h : ((xs[i * 3 + 1]?).getD (.bool false)).oneCell' = true then ⟨_, h⟩ else default), (if h : ((xs[i * 3 + 2]?).getD (.bool false)).oneCell' = true then ⟨_, h⟩ else default), i)
    obtain ⟨D, hD⟩ : ∃ D : List Wr, D = (List.range l.length).map el := ⟨_, rfl⟩
    have hDl : D.length = l.length := by rw [hD]; simp
    have hDi : ∀ i, i < l.length → D.getD i default = el i := fun i hi => by
      rw [hD, List.getD_eq_getElem?_getD, List.getElem?_map, List.getElem?_range hi]; rfl
    have henc : ∀ i, i < l.length → ∀ j, j < 3 → (encW (el i))[j]? = xs[i * 3 + j]? := by
      intro i hi j hj
      obtain ⟨u0, a0, _⟩ := hone i 0 hi (by omega)
      obtain ⟨u1, a1, b1⟩ := hone i 1 hi (by omega)
      obtain ⟨u2, a2, b2⟩ := hone i 2 hi (by omega)
      have c0 := hint i 0 hi (by omega) rfl
      match j, hj with
      | 0, _ =>
        rw [c0]
        obtain ⟨k1, k2⟩ := hkey i hi
        have e : ((keyW (l.getD i [])).toNat % 1048576 : Nat) = (keyW (l.getD i [])).toNat := Nat.mod_eq_of_lt (by omega)
        show some (Value.int .i64 (((keyW (l.getD i [])).toNat % 1048576 : Nat) : Int)) = _
        rw [e, Int.toNat_of_nonneg k1]
        rfl
      | 1, _ =>
        rw [a1]
        show some (Subtype.val (if h : ((xs[i * 3 + 1]?).getD (.bool false)).oneCell' = true then (⟨_, h⟩ : OC) else default)) = _
        have hh : ((xs[i * 3 + 1]?).getD (.bool false)).oneCell' = true := by rw [a1]; exact b1
        rw [dif_pos hh]
        simp [a1]
      | 2, _ =>
        rw [a2]
        show some (Subtype.val (if h : ((xs[i * 3 + 2]?).getD (.bool false)).oneCell' = true then (⟨_, h⟩ : OC) else default)) = _
        have hh : ((xs[i * 3 + 2]?).getD (.bool false)).oneCell' = true := by rw [a2]; exact b2
        rw [dif_pos hh]
        simp [a2]
    have hxs : xs.toArray = flatK encW 3 D.toArray := by
      apply Array.ext_getElem?
      intro q
      have hl3 : xs.length = l.length * 3 := hrow.1
      by_cases hq : q < l.length * 3
      · have hi : q / 3 < l.length := by omega
        have hj : q % 3 < 3 := by omega
        have hqq : q / 3 * 3 + q % 3 = q := by omega
        have e3 := flatW_get D (q / 3) (q % 3) (by omega) hj
        rw [hqq, hDi _ hi, henc _ hi _ hj, hqq] at e3
        rw [e3]
        simp
      · have n1 : xs.toArray[q]? = none := Array.getElem?_eq_none (by simp; omega)
        have n2 : (flatK encW 3 D.toArray)[q]? = none := Array.getElem?_eq_none (by rw [size_flatK]; simp; omega)
        rw [n1, n2]
    obtain ⟨hH, hlt⟩ := row_holds hrow
    rw [hxs] at hH
    have hsz : D.toArray.size = l.length := by simp [hDl]
    have hcon := AnyQ.slices_SortFunc L 3 aE zE encW (fun _ => rfl) encW_one cmpW swoW g #[] b0 0 cap D.toArray w eg (fun mm os dk hdk x y => hcmp x y _) hH hlt (by rw [hsz]; omega)
    rw [hsz] at hcon
    refine hcon.mono fun e w' hq => ?_
    obtain ⟨rfl, d', n, os, hp, hs, rfl⟩ := hq
    have hd : d'.size = l.length := by rw [hp.1, hsz]
    have hperm : d'.toList.Perm D := by
      have := hp.2.2
      rw [Array.extract_eq_self_of_le (by omega), Array.extract_eq_self_of_le (by omega)] at this
      simpa using this
    have hmem : ∀ i, i < l.length → ∃ p, p < l.length ∧ d'.toList.getD i default = el p := by
      intro i hi
      have hi' : i < d'.toList.length := by simpa [hd] using hi
      have : d'.toList.getD i default ∈ D := hperm.mem_iff.1 (by rw [List.getD_eq_getElem?_getD, List.getElem?_eq_getElem hi']; exact List.getElem_mem hi')
      rw [hD] at this
      obtain ⟨p, hp1, hp2⟩ := List.mem_map.1 this
      exact ⟨p, List.mem_range.1 hp1, hp2.symm⟩
    let π : Nat → Nat := fun i => (d'.toList.getD i default).2.2.2
    have hπ : ∀ i, i < l.length → π i < l.length ∧ d'.toList.getD i default = el (π i) := by
      intro i hi
      obtain ⟨p, hp1, hp2⟩ := hmem i hi
      have : π i = p := by show (d'.toList.getD i default).2.2.2 = p; rw [hp2]
      rw [this]
      exact ⟨hp1, hp2⟩
    have hidx : (d'.toList.map fun x => l.getD x.2.2.2 []).Perm l := by
      have h1 := hperm.map fun x : Wr => l.getD x.2.2.2 []
      have h2 : (D.map fun x : Wr => l.getD x.2.2.2 []) = l := by
        rw [hD, List.map_map]
        apply List.ext_getElem?
        intro i
        rw [List.getElem?_map]
        by_cases hi : i < l.length
        · rw [List.getElem?_range hi, List.getElem?_eq_getElem hi]
          show some (l.getD i []) = _
          rw [List.getD_eq_getElem?_getD, List.getElem?_eq_getElem hi]; rfl
        · rw [List.getElem?_eq_none (by simpa using hi), List.getElem?_eq_none (by omega)]; rfl
      rw [h2] at h1
      exact h1
    have hkeys : ((d'.toList.map fun x => l.getD x.2.2.2 []).map keyW).Nodup := by
      refine (((hidx.trans m1.symm).map keyW).nodup_iff).2 ?_
      rw [List.nodup_iff_pairwise_ne, List.pairwise_map]
      exact m2.imp fun h e => by omega
    have hfst : ∀ i, i < l.length → (((d'.toList.getD i default).1 : Nat) : Int) = keyW (l.getD (d'.toList.getD i default).2.2.2 []) := by
      intro i hi
      obtain ⟨h1, h2⟩ := hπ i hi
      have h3 : (d'.toList.getD i default).2.2.2 = π i := rfl
      rw [h3, h2]
      obtain ⟨k1, k2⟩ := hkey _ h1
      show (((keyW (l.getD (π i) [])).toNat % 1048576 : Nat) : Int) = _
      rw [Nat.mod_eq_of_lt (by omega), Int.toNat_of_nonneg k1]
    have hget : ∀ i (hi : i < l.length), d'.toList.getD i default = d'[i]'(by omega) := fun i hi => by
      rw [List.getD_eq_getElem?_getD, List.getElem?_eq_getElem (by simpa [hd] using hi)]; simp
    have hpw : (d'.toList.map fun x => l.getD x.2.2.2 []).Pairwise (fun r s => keyW r < keyW s) := by
      rw [List.nodup_iff_pairwise_ne, List.pairwise_map, List.pairwise_map] at hkeys
      rw [List.pairwise_map]
      rw [List.pairwise_iff_getElem] at hkeys ⊢
      intro i j hi hj hij
      have hi' : i < l.length := by simpa [hd] using hi
      have hj' : j < l.length := by simpa [hd] using hj
      have hne := hkeys i j hi hj hij
      have := hs i j (Nat.zero_le _) hij (by simpa [hd] using hj)
      rw [getElem!_pos d' i (by omega), getElem!_pos d' j (by omega)] at this
      have this := cmpW_f.1 this
      have g1 := hfst i hi'
      have g2 := hfst j hj'
      rw [hget i hi'] at g1
      rw [hget j hj'] at g2
      have e1 : d'.toList[i] = d'[i]'(by omega) := by simp
      have e2 : d'.toList[j] = d'[j]'(by omega) := by simp
      rw [e1, e2] at hne ⊢
      omega
    have em : m = d'.toList.map fun x => l.getD x.2.2.2 [] := keyW_ext m2 hpw fun x => m1.mem_iff.trans hidx.mem_iff.symm
    have hfl : (flatK encW 3 d') = ((flatK encW 3 d').toList).toArray := by simp
    have hw : sortWorldK encW 3 w b0 0 n d' os = grow (putRow id (Sort.ahead w n) b0 0 (flatK encW 3 d').toList.toArray) os := by rw [← hfl]; rfl
    have hrow' := row_put (q := n) (os := os) (ys := (flatK encW 3 d').toList) (xs := xs) (by rw [hrow.1]; simp [hd]) hrow
    have hgb := put_grownBy (w := w) (g := b0) (q := n) (os := os) (flatK encW 3 d').toList.toArray
    rw [hw]
    refine ⟨rfl, hgb, (flatK encW 3 d').toList, hrow', π, fun i hi => ?_⟩
    obtain ⟨h1, h2⟩ := hπ i hi
    refine ⟨h1, ?_, fun j hj => ?_⟩
    · have hi' : i < d'.toList.length := by simpa [hd] using hi
      rw [em, List.getD_eq_getElem?_getD, List.getElem?_map, List.getElem?_eq_getElem hi']
      show l.getD _ [] = l.getD (d'.toList.getD i default).2.2.2 []
      rw [List.getD_eq_getElem?_getD (l := d'.toList), List.getElem?_eq_getElem hi']
      rfl
    · have e3 := flatW_get d'.toList i j (by simpa [hd] using hi) hj
      rw [Array.toArray_toList, h2, henc _ h1 _ hj] at e3
      rw [← e3]
      simp
end
end PM
