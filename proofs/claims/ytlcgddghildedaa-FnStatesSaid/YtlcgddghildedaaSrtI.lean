/- Models of the functions, or plain laws about them; each theorem states its own conditions. -/
import Derived.Test.YtlcgddghildedaaL4
import Derived.Test.YtlcgddghildedaaSrt
import Derived.Shelf.SortM.Plain
import Derived.Shelf.SortM.SortNone
set_option linter.unusedVariables false
set_option linter.unusedSimpArgs false
namespace PM
open Go Go.Proofs Go.Sort RowKit

/-! ## The library's sort at numbers -/
theorem enc_putCells {α : Type} [Inhabited α] (enc : α → Value) (d : Array α) (c : Array Value) : putCells enc 0 d c = putCells id 0 (d.map enc) c := by
  unfold putCells
  apply Array.ext_getElem?
  intro i
  rw [Array.getElem?_mapIdx, Array.getElem?_mapIdx]
  cases c[i]? with
  | none => rfl
  | some x =>
    simp only [Option.map_some, Nat.zero_add, Nat.zero_le, true_and, Nat.sub_zero, Array.size_map, id]
    by_cases h : i < d.size
    · rw [if_pos h, if_pos h, getElem!_pos d i h, getElem!_pos (d.map enc) i (by simpa using h)]
      simp
    · rw [if_neg h, if_neg h]
theorem enc_putRow {α : Type} [Inhabited α] (enc : α → Value) (w : World) (blk : Nat) (d : Array α) : putRow enc w blk 0 d = putRow id w blk 0 (d.map enc) := by
  unfold putRow
  rw [show putCells enc 0 d = putCells id 0 (d.map enc) from funext fun c => enc_putCells enc d c]
abbrev srtI (l : List Int) : List Int := l.mergeSort fun x y => decide (x ≤ y)
section
variable {P : Program} {cx : Cx} {ρ : Shelf.Ren}
theorem sortI_gok (Ly : SlLaysM.n5 P ρ) (hen : ∀ args w, (callFunc (ρ.f 5) args).run P w = .ok (.enter (ρ.f 5) args) w) {t : TypeId} {G : List V → (V → R) → R}
    (hG : ∀ ds k r, G ds k = some r → ∃ s, ds = [.arr (.ints t .i64 s)] ∧ s.length ≤ 2147483648 ∧ k (.tup [.arr (.ints t .i64 (srtI s))]) = some r) : GOk P cx (ρ.f 5) ⟨[true], G, none⟩ := by
  refine ⟨hen, fun hm => (by cases hm), fun _ ds k r h => ?_, fun _ e => (by cases e)⟩
  obtain ⟨s, rfl, m4, h1⟩ := hG ds k r h
  refine ⟨_, h1, fun w vs ha => ?_⟩
  obtain ⟨_, hl⟩ := ha
  match vs, hl with
  | [v1], ⟨hown, _⟩ =>
    obtain ⟨sh, xs, k1, k2, k3, k4, k5, k6⟩ : OwnArr cx w (fun _ => False) (.ints t .i64 s) v1 _ := hown
    obtain rfl : [K.int .i64] = sh := Option.some.inj k1
    have hlen : (rowsOf (.ints t .i64 s)).length = s.length := by rw [rowsOf_ints]; simp
    have hc : ∀ (l : List Int) i, i < l.length → asInt (cOf (rowsOf (.ints t .i64 l)) i 0) = l.getD i 0 := fun l i hi => by
      rw [rowsOf_ints]
      unfold cOf cAt
      simp [List.getD_eq_getElem?_getD, hi, asInt]
    have h11 : [K.int .i64].length = 1 := rfl
    rw [hlen, h11] at k4
    have hln : (srtI s).length = s.length := List.length_mergeSort s
    have hen0 : ∀ e w', e = Ending.returned (.tuple #[]) → w'.os = w.os → w'.tape = w.tape → w'.output = w.output → w.heap.size ≤ w'.heap.size → (∀ b, b < w.heap.size → v1.ownBlock ≠ some b → w'.heap[b]? = w.heap[b]?) →
        w'.ownsRow 0 t 1 v1 s.length ((srtI s).map (Value.int .i64)) → DoneM cx w (slM [true] [.arr (.ints t .i64 s)] [v1]) (.tup [.arr (.ints t .i64 (srtI s))]) e w' := by
      intro e w' he h1 h2 h3 h4 h5 h6
      subst he
      refine ⟨.tuple #[], [], fun _ => False, [], [.arr (.ints t .i64 (srtI s))], rfl, rfl, ⟨⟨_, rfl, [K.int .i64], (srtI s).map (Value.int .i64), rfl, by decide, fun r hr => ?_, ?_, rfl, fun i j hi hj => ?_⟩, trivial⟩, h1, h2, h3, h4, fun b hb hn => h5 b hb fun e => hn ?_, ⟨[], rfl, rfl⟩, List.nodup_nil, fun b hb => (by cases hb), fun b hb => hb.elim⟩
      · rw [rowsOf_ints] at hr
        obtain ⟨q, hq, rfl⟩ := List.mem_map.1 hr
        rfl
      · have e1 : (rowsOf (.ints t .i64 (srtI s))).length = s.length := by rw [rowsOf_ints]; simp
        rw [e1]
        exact h6
      · have e1 : (rowsOf (.ints t .i64 (srtI s))).length = s.length := by rw [rowsOf_ints]; simp
        rw [e1] at hi
        have hj : j < 1 := hj
        obtain rfl : j = 0 := by omega
        refine ⟨.int .i64 (asInt (cOf (rowsOf (.ints t .i64 (srtI s))) i 0)), ?_, .int _ _⟩
        rw [hc _ i (by omega), h11, Nat.mul_one, Nat.add_zero, List.getElem?_map, List.getElem?_eq_getElem (by omega), List.getD_eq_getElem?_getD, List.getElem?_eq_getElem (by omega)]
        rfl
      · simp [slM, slA, blocksOf, e]
    rcases k4.2 with ⟨rfl, hn⟩ | ⟨b0, cap, cur, rfl, _, hcur, hcap, _⟩
    · have hs : s = [] := List.eq_nil_of_length_eq_zero hn
      subst hs
      refine (AnyM.slices_Sort_int_none Ly none 0 w).mono fun e w' hq => ?_
      obtain ⟨rfl, rfl⟩ := hq
      refine hen0 _ _ rfl rfl rfl rfl (Nat.le_refl _) (fun b _ _ => rfl) ?_
      have : (srtI []).map (Value.int .i64) = [] := by simp [srtI]
      rw [this]
      exact ⟨rfl, .inl ⟨rfl, rfl⟩⟩
    · obtain ⟨hH, hlt⟩ := row_holds k4
      have hxl : xs.length = s.length := by rw [k4.1, Nat.mul_one]
      have hxs : ∀ i, i < s.length → xs[i]? = some (.int .i64 (s.getD i 0)) := by
        intro i hi
        obtain ⟨cv, c1, c2⟩ := k6 i 0 (by rw [hlen]; exact hi) (by decide)
        rw [h11, Nat.mul_one, Nat.add_zero] at c1
        have e2 : cv = .int .i64 (s.getD i 0) := by
          have ek : ([K.int .i64] : List K).getD 0 .bool = .int .i64 := rfl
          rw [ek] at c2
          rw [← hc s i hi]
          cases c2
          rfl
        rw [c1, e2]
      have hH' : Holds (Value.int .i64) w b0 0 s.toArray := by
        intro j hj
        have hj' : j < s.length := by simpa using hj
        have := hH j (by simp; omega)
        refine ⟨this.1.trans ?_, this.2⟩
        have e1 := hxs j hj'
        rw [getElem!_pos xs.toArray j (by simp; omega), getElem!_pos s.toArray j (by simpa using hj')]
        rw [List.getElem?_eq_getElem (by omega)] at e1
        rw [List.getD_eq_getElem?_getD, List.getElem?_eq_getElem hj'] at e1
        simpa using e1
      refine (AnyM.slices_Sort_int Ly b0 0 cap s w hH' hlt (by omega)).mono fun e w' hq => ?_
      obtain ⟨rfl, n, os, rfl⟩ := hq
      have hm : ((srtI s).toArray.map (Value.int .i64)) = ((srtI s).map (Value.int .i64)).toArray := by simp
      rw [enc_putRow, hm]
      have hrow := row_put (q := n) (os := os) (ys := (srtI s).map (Value.int .i64)) (xs := xs) (by rw [List.length_map, hln, hxl]) k4
      have hgb := put_grownBy (w := w) (g := b0) (q := n) (os := os) ((srtI s).map (Value.int .i64)).toArray
      exact hen0 _ _ rfl hgb.os hgb.tape hgb.output hgb.size (fun b hb hne => hgb.block b hb fun e => hne (by rw [show (Value.slice (some ⟨b0, 0, none⟩) s.length cap).ownBlock = some b0 from rfl]; exact e.symm)) hrow
end
end PM
