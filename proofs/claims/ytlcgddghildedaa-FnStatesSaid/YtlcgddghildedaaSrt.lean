/- Models of the functions, or plain laws about them; each theorem states its own conditions. -/
import Derived.Test.YtlcgddghildedaaL3
import Derived.Shelf.SlSortCmp.WholeK
set_option linter.unusedVariables false
set_option linter.unusedSimpArgs false
namespace PM
open Go Go.Proofs Go.Sort RowKit

/-! ## Rows of values and the library's sort -/
theorem row_holds {w : World} {base g cap n : Nat} {e : TypeId} {size : Nat} {xs : List Value}
    (h : w.ownsRow base e size (.slice (some ⟨g, 0, none⟩) n cap) n xs) : Holds id w g 0 xs.toArray ∧ g < w.heap.size := by
  rcases h.2 with ⟨h0, _⟩ | ⟨g', cap', cur, hv, hb, hg, hn, hcap, hs, ht⟩
  · cases h0
  cases hv
  refine ⟨fun j hj => ?_, (Array.getElem?_eq_some_iff.1 hg).1⟩
  have hj' : j < xs.length := by simpa using hj
  refine ⟨?_, by simp [World.frozen?, hg]⟩
  have h1 : (cur.toList.take (n * size))[j]? = xs[j]? := by rw [ht]
  rw [List.getElem?_take_of_lt (by rw [← h.1]; exact hj')] at h1
  simp only [World.cell?, hg, Nat.zero_add]
  simp only [Option.isSome_none, Bool.false_eq_true, if_false]
  rw [← Array.getElem?_toList, h1]
  simp [hj']
theorem row_put {w : World} {base g cap n q : Nat} {e : TypeId} {size : Nat} {os : Array Obj} {xs ys : List Value} (hl : ys.length = xs.length)
    (h : w.ownsRow base e size (.slice (some ⟨g, 0, none⟩) n cap) n xs) :
    (grow (putRow id (Sort.ahead w q) g 0 ys.toArray) os).ownsRow base e size (.slice (some ⟨g, 0, none⟩) n cap) n ys := by
  rcases h.2 with ⟨h0, _⟩ | ⟨g', cap', cur, hv, hb, hg, hn, hcap, hs, ht⟩
  · cases h0
  cases hv
  have hlt : g < w.heap.size := (Array.getElem?_eq_some_iff.1 hg).1
  refine ⟨hl.trans h.1, .inr ⟨g, cap, putCells id 0 ys.toArray cur, rfl, hb, ?_, hn, hcap, by simp [putCells, hs], ?_⟩⟩
  · rw [heap_grow_old _ _ (by simpa using hlt)]
    simp [putRow, mapBlock, Sort.ahead, Array.getElem?_modify, hg, onCells]
  · have hsz : ys.length ≤ cur.size := by rw [hl, h.1, hs]; exact Nat.mul_le_mul_right _ hn
    apply List.ext_getElem?
    intro j
    rw [← h.1, ← hl]
    by_cases hj : j < ys.length
    · rw [List.getElem?_take_of_lt hj, Array.getElem?_toList]
      simp [putCells, hj, show j < cur.size by omega]
    · rw [List.getElem?_take_eq_none (by omega), List.getElem?_eq_none (by omega)]
theorem put_grownBy {w : World} {g q : Nat} {os : Array Obj} (d : Array Value) : w.grownBy (grow (putRow id (Sort.ahead w q) g 0 d) os) (some g) := by
  refine ⟨rfl, rfl, rfl, by simp, fun k hk hne => ?_⟩
  rw [heap_grow_old _ _ (by simpa using hk)]
  have : g ≠ k := fun e => hne (by rw [e])
  simp [putRow, mapBlock, Sort.ahead, Array.getElem?_modify, this]

/-! ## Rows of three numbers, sorted by the second and the first -/
abbrev Hd := Fin 16 × Fin 16 × Int
def encH (x : Hd) : List Value := [.int .i64 ((x.1 : Nat) : Int), .int .i64 ((x.2.1 : Nat) : Int), .int .i64 x.2.2]
def rowH (x : Hd) : List Int := [((x.1 : Nat) : Int), ((x.2.1 : Nat) : Int), x.2.2]
def cmpH (x y : Hd) : Int := if x.2.1 = y.2.1 then ((x.1 : Nat) : Int) - ((y.1 : Nat) : Int) else ((x.2.1 : Nat) : Int) - ((y.2.1 : Nat) : Int)
def ltR (r s : List Int) : Prop := r.getD 1 0 < s.getD 1 0 ∨ (r.getD 1 0 = s.getD 1 0 ∧ r.getD 0 0 < s.getD 0 0)
def keyR (r : List Int) : Int × Int := (r.getD 0 0, r.getD 1 0)
theorem ltR_irrefl (r : List Int) : ¬ ltR r r := by unfold ltR; omega
theorem ltR_trans {r s t : List Int} (h1 : ltR r s) (h2 : ltR s t) : ltR r t := by unfold ltR at *; omega
theorem ltR_tri {r s : List Int} (h1 : ¬ ltR s r) (h2 : keyR r ≠ keyR s) : ltR r s := by
  unfold ltR at *
  unfold keyR at h2
  by_cases e1 : r.getD 0 0 = s.getD 0 0
  · by_cases e2 : r.getD 1 0 = s.getD 1 0
    · exact absurd (by rw [e1, e2]) h2
    · omega
  · omega
theorem cmpH_lt (x y : Hd) : ltOf cmpH x y = true ↔ ltR (rowH x) (rowH y) := by
  unfold ltOf cmpH ltR rowH
  simp only [decide_eq_true_eq]
  have e : x.2.1 = y.2.1 ↔ (((x.2.1 : Nat) : Int) = ((y.2.1 : Nat) : Int)) := by rw [Int.ofNat_inj]; exact Fin.ext_iff
  by_cases h : x.2.1 = y.2.1
  · rw [if_pos h]
    have h' := e.1 h
    simp only [List.getD_cons_succ, List.getD_cons_zero]
    omega
  · rw [if_neg h]
    have h' := fun q => h (e.2 q)
    simp only [List.getD_cons_succ, List.getD_cons_zero]
    omega
theorem cmpH_f {x y : Hd} : ltOf cmpH x y = false ↔ ¬ ltR (rowH x) (rowH y) := by
  rw [← cmpH_lt]; cases ltOf cmpH x y <;> simp
theorem swoH : SWO (ltOf cmpH) where
  irrefl x := cmpH_f.2 (ltR_irrefl _)
  trans x y z h1 h2 := (cmpH_lt _ _).2 (ltR_trans ((cmpH_lt _ _).1 h1) ((cmpH_lt _ _).1 h2))
  ntrans x y z h1 h2 := cmpH_f.2 (by have h1 := cmpH_f.1 h1; have h2 := cmpH_f.1 h2; unfold ltR at *; omega)
theorem ltR_ext : ∀ {a b : List (List Int)}, a.Pairwise ltR → b.Pairwise ltR → (∀ x, x ∈ a ↔ x ∈ b) → a = b
  | [], [], _, _, _ => rfl
  | [], y :: b, _, _, h => by
    have := (h y).2 (by simp)
    cases this
  | x :: a, [], _, _, h => by
    have := (h x).1 (by simp)
    cases this
  | x :: a, y :: b, ha, hb, h => by
    have hx := List.pairwise_cons.1 ha
    have hy := List.pairwise_cons.1 hb
    have e : x = y := by
      have h1 := (h x).1 (by simp)
      have h2 := (h y).2 (by simp)
      rcases List.mem_cons.1 h1 with h1 | h1
      · exact h1
      · rcases List.mem_cons.1 h2 with h2 | h2
        · exact h2.symm
        · exact absurd (ltR_trans (hy.1 x h1) (hx.1 y h2)) (ltR_irrefl _)
    subst e
    rw [ltR_ext hx.2 hy.2 fun z => ?_]
    constructor
    · intro hz
      have := (h z).1 (by simp [hz])
      rcases List.mem_cons.1 this with r | r
      · subst r; exact absurd (hx.1 z hz) (ltR_irrefl _)
      · exact r
    · intro hz
      have := (h z).2 (by simp [hz])
      rcases List.mem_cons.1 this with r | r
      · subst r; exact absurd (hy.1 z hz) (ltR_irrefl _)
      · exact r
theorem ltR_keys {m : List (List Int)} (h : m.Pairwise ltR) : (m.map keyR).Nodup := by
  rw [List.nodup_iff_pairwise_ne, List.pairwise_map]
  refine h.imp fun {r s} hl e => ?_
  unfold keyR at e
  rw [Prod.mk.injEq] at e
  unfold ltR at hl
  omega
def SrtOk (l m : List (List Int)) : Prop := m.Perm l ∧ m.Pairwise ltR ∧ l ≠ [] ∧ l.length ≤ 2147483648 ∧ ∀ r ∈ l, ∃ x : Hd, r = rowH x
open Classical in
noncomputable def srtK (l : List (List Int)) (k : List (List Int) → R) : R := if h : ∃ m, SrtOk l m then k (Classical.choose h) else none
theorem srtK_eq {l m : List (List Int)} (h : SrtOk l m) (k : List (List Int) → R) : srtK l k = k m := by
  have he : ∃ m, SrtOk l m := ⟨m, h⟩
  unfold srtK
  rw [dif_pos he]
  have hc := Classical.choose_spec he
  rw [ltR_ext hc.2.1 h.2.1 fun x => (hc.1.mem_iff).trans h.1.mem_iff.symm]
theorem rows_hd : ∀ {l : List (List Int)}, (∀ r ∈ l, ∃ x : Hd, r = rowH x) → ∃ D : List Hd, l = D.map rowH
  | [], _ => ⟨[], rfl⟩
  | r :: l, h => by
    obtain ⟨x, rfl⟩ := h r (by simp)
    obtain ⟨D, rfl⟩ := rows_hd fun s hs => h s (List.mem_cons_of_mem _ hs)
    exact ⟨x :: D, rfl⟩
theorem enc_get (x : Hd) (j : Nat) (h : j < 3) : (encH x)[j]! = .int .i64 ((rowH x).getD j 0) := by
  match j, h with
  | 0, _ => rfl
  | 1, _ => rfl
  | 2, _ => rfl
theorem flat_get (D : List Hd) (i j : Nat) (hi : i < D.length) (hj : j < 3) : (flatK encH 3 D.toArray)[i * 3 + j]? = some (.int .i64 ((rowH (D.getD i default)).getD j 0)) := by
  have lt : i * 3 + j < (D.toArray).size * 3 := by simp; omega
  have e1 : (i * 3 + j) / 3 = i := by omega
  have e2 : (i * 3 + j) % 3 = j := by omega
  have h := get_flatK encH 3 D.toArray (i * 3 + j) lt
  rw [e1, e2, enc_get _ _ hj] at h
  rw [Array.getElem?_eq_getElem (by rw [size_flatK]; exact lt), ← getElem!_pos, h]
  have : D.toArray[i]! = D.getD i default := by
    rw [getElem!_pos _ i (by simpa using hi)]; simp [List.getD_eq_getElem?_getD, hi]
  rw [this]
theorem cOf_rows {t : TypeId} (D : List Hd) (i j : Nat) (hi : i < D.length) (hj : j < 3) : asInt (cOf (rowsOf (.vecs t 3 (D.map rowH))) i j) = (rowH (D.getD i default)).getD j 0 := by
  rw [rowsOf_vecs]
  unfold cOf cAt
  simp only [List.getD_eq_getElem?_getD, List.getElem?_map, List.getElem?_eq_getElem hi, Option.map_some, Option.getD_some]
  match j, hj with
  | 0, _ => rfl
  | 1, _ => rfl
  | 2, _ => rfl
section
variable {P : Program} {cx : Cx} {ρ : Shelf.Ren}
theorem sortH_gok (L : SlLaysF0.n6 P ρ) (aE : ∀ w, (isAgg (ρ.t 24)).run P w = .ok true w) (zE : ∀ w, (Go.sizeOf (ρ.t 24)).run P w = .ok 3 w) {g : Nat} (eg : ∀ args w, (callFunc g args).run P w = .ok (.enter g args) w)
    (hcmp : ∀ (x y : Hd) (W : World), Calls P g #[.agg (encH x).toArray, .agg (encH y).toArray] W fun e w' => e = .returned (.int .i64 (cmpH x y)) ∧ ∃ q os', w' = grow (W.drewN q) os')
    (hen : ∀ args w, (callFunc (ρ.f 6) args).run P w = .ok (.enter (ρ.f 6) args) w) {t : TypeId} {G : List V → (V → R) → R}
    (hG : ∀ ds k r, G ds k = some r → ∃ s, ds = [.arr (.vecs t 3 s), .func g []] ∧ srtK s (fun o => k (.tup [.arr (.vecs t 3 o)])) = some r) : GOk P cx (ρ.f 6) ⟨[true, false], G, none⟩ := by
  refine ⟨hen, fun hm => (by cases hm), fun _ ds k r h => ?_, fun _ e => (by cases e)⟩
  obtain ⟨s, rfl, h1⟩ := hG ds k r h
  unfold srtK at h1
  split at h1
  case isFalse => cases h1
  rename_i hex
  have hm := Classical.choose_spec hex
  generalize Classical.choose hex = m at h1 hm
  obtain ⟨m1, m2, m3, m4, m5⟩ := hm
  refine ⟨_, h1, fun w vs ha => ?_⟩
  obtain ⟨_, hl⟩ := ha
  match vs, hl with
  | [v1, v2], ⟨hown, hf, _⟩ =>
    obtain ⟨lf, rfl, hlf⟩ := hf
    have : lf = [] := by cases lf with
      | nil => rfl
      | cons _ _ => exact hlf.elim
    subst this
    obtain ⟨D, rfl⟩ := rows_hd m5
    obtain ⟨sh, xs, k1, k2, k3, k4, k5, k6⟩ : OwnArr cx w (fun _ => False) (.vecs t 3 (D.map rowH)) v1 _ := hown
    obtain rfl : List.replicate 3 (.int .i64) = sh := Option.some.inj k1
    have hlen : (rowsOf (.vecs t 3 (D.map rowH))).length = D.length := by rw [rowsOf_vecs]; simp
    have h3 : (List.replicate 3 (K.int .i64)).length = 3 := rfl
    rw [hlen, h3] at k4
    have hD : D.length ≠ 0 := fun e => m3 (by rw [List.eq_nil_of_length_eq_zero e]; rfl)
    obtain ⟨b0, cap, rfl⟩ : ∃ b0 cap, v1 = .slice (some ⟨b0, 0, none⟩) D.length cap := by
      rcases k4.2 with ⟨_, e⟩ | ⟨b0, cap, _, e, _⟩
      · exact absurd e hD
      · exact ⟨b0, cap, e⟩
    have hxs : xs.toArray = flatK encH 3 D.toArray := by
      apply Array.ext_getElem?
      intro q
      have hl3 : xs.length = D.length * 3 := k4.1
      by_cases hq : q < D.length * 3
      · have hi : q / 3 < D.length := by omega
        have hj : q % 3 < 3 := by omega
        have hqq : q / 3 * 3 + q % 3 = q := by omega
        obtain ⟨cv, c1, c2⟩ := k6 (q / 3) (q % 3) (by rw [hlen]; exact hi) (by rw [h3]; exact hj)
        have e2 : cv = .int .i64 ((rowH (D.getD (q / 3) default)).getD (q % 3) 0) := by
          have ek : (List.replicate 3 (K.int .i64)).getD (q % 3) .bool = .int .i64 := by
            have : q % 3 = 0 ∨ q % 3 = 1 ∨ q % 3 = 2 := by omega
            rcases this with e | e | e <;> rw [e] <;> rfl
          rw [ek] at c2
          rw [← cOf_rows (t := t) D _ _ hi hj]
          cases c2
          rfl
        have e3 := flat_get D _ _ hi hj
        rw [hqq] at e3
        rw [h3, hqq] at c1
        rw [e3, ← e2, ← c1]
        simp
      · have n1 : xs.toArray[q]? = none := Array.getElem?_eq_none (by simp; omega)
        have n2 : (flatK encH 3 D.toArray)[q]? = none := Array.getElem?_eq_none (by rw [size_flatK]; simp; omega)
        rw [n1, n2]
    obtain ⟨hH, hlt⟩ := row_holds k4
    rw [hxs] at hH
    have hsz : D.toArray.size = D.length := by simp
    have hcon := AnyQ.slices_SortFunc L 3 aE zE encH (fun _ => rfl) (fun x v hv => by simp [encH] at hv; rcases hv with rfl | rfl | rfl <;> rfl) cmpH swoH g #[] b0 0 cap D.toArray w eg (fun mm os dk hdk x y => hcmp x y _) hH hlt (by rw [hsz]; simp at m4; omega)
    rw [hsz] at hcon
    refine hcon.mono fun e w' hq => ?_
    obtain ⟨rfl, d', n, os, hp, hs, rfl⟩ := hq
    have hd : d'.size = D.length := by rw [hp.1, hsz]
    have hperm : d'.toList.Perm D := by
      have := hp.2.2
      rw [Array.extract_eq_self_of_le (by omega), Array.extract_eq_self_of_le (by omega)] at this
      simpa using this
    have hpr : (d'.toList.map rowH).Perm (D.map rowH) := hperm.map _
    have hkeys : ((d'.toList.map rowH).map keyR).Nodup := ((hpr.trans m1.symm).map keyR).nodup_iff.2 (ltR_keys m2)
    have hpw : (d'.toList.map rowH).Pairwise ltR := by
      rw [List.nodup_iff_pairwise_ne, List.pairwise_map, List.pairwise_map] at hkeys
      rw [List.pairwise_map]
      rw [List.pairwise_iff_getElem] at hkeys ⊢
      intro i j hi hj hij
      refine ltR_tri ?_ (hkeys i j hi hj hij)
      have := hs i j (Nat.zero_le _) hij (by simpa [hd] using hj)
      rw [getElem!_pos d' i (by simpa using hi), getElem!_pos d' j (by simpa using hj)] at this
      simpa using cmpH_f.1 this
    have em : m = d'.toList.map rowH := ltR_ext m2 hpw fun x => m1.mem_iff.trans hpr.mem_iff.symm
    subst em
    have hfl : (flatK encH 3 d') = ((flatK encH 3 d').toList).toArray := by simp
    have hw : sortWorldK encH 3 w b0 0 n d' os = grow (putRow id (Sort.ahead w n) b0 0 (flatK encH 3 d').toList.toArray) os := by rw [← hfl]; rfl
    have hrow := row_put (q := n) (os := os) (ys := (flatK encH 3 d').toList) (xs := xs) (by rw [k4.1]; simp [hd]) k4
    have hgb := put_grownBy (w := w) (g := b0) (q := n) (os := os) (flatK encH 3 d').toList.toArray
    rw [hw]
    refine ⟨.tuple #[], [], fun _ => False, [], [.arr (.vecs t 3 (d'.toList.map rowH))], rfl, rfl, ⟨⟨_, rfl, _, (flatK encH 3 d').toList, rfl, by decide, fun r hr => ?_, ?_, rfl, fun i j hi hj => ?_⟩, trivial⟩, hgb.os, hgb.tape, hgb.output, hgb.size, fun b hb hn => hgb.block b hb fun e => hn ?_, ⟨[], rfl, rfl⟩, List.nodup_nil, fun b hb => (by cases hb), fun b hb => hb.elim⟩
    · rw [rowsOf_vecs] at hr
      obtain ⟨q, hq, rfl⟩ := List.mem_map.1 hr
      obtain ⟨x, _, rfl⟩ := List.mem_map.1 hq
      rfl
    · have e1 : (rowsOf (.vecs t 3 (d'.toList.map rowH))).length = D.length := by rw [rowsOf_vecs]; simp [hd]
      rw [e1]
      exact hrow
    · have e1 : (rowsOf (.vecs t 3 (d'.toList.map rowH))).length = d'.toList.length := by rw [rowsOf_vecs]; simp
      rw [e1] at hi
      have hj : j < 3 := hj
      have e3 := flat_get d'.toList i j hi hj
      rw [Array.toArray_toList] at e3
      refine ⟨.int .i64 (asInt (cOf (rowsOf (.vecs t 3 (d'.toList.map rowH))) i j)), ?_, ?_⟩
      · rw [cOf_rows _ _ _ hi hj]
        simpa using e3
      · have ek : (List.replicate 3 (K.int .i64)).getD j .bool = .int .i64 := by
          have : j = 0 ∨ j = 1 ∨ j = 2 := by omega
          rcases this with e | e | e <;> rw [e] <;> rfl
        rw [ek]
        exact .int _ _
    · cases e
      show b0 ∈ blocksOf _
      simp [slM, slA, blocksOf, Value.ownBlock]
end
end PM
