/- Models of the functions, or plain laws about them; each theorem states its own conditions. -/
import Derived.Test.YtnkgcegeinemjaaSrt
import Derived.Lib.SlKept
import Derived.Shelf.SlSortCmp.KitK
import Derived.Shelf.SlicesE.Compact
set_option linter.unusedVariables false
set_option linter.unusedSimpArgs false
namespace PM
open Go Go.Proofs Go.Sort Go.Lib RowKit

theorem setMany_set {α : Type} [Inhabited α] (enc : α → List Value) (k : Nat) (hk : ∀ x, (enc x).length = k) (d : Array α) (i : Nat) (u : α) (hi : i < d.size) :
    setMany (flatK enc k d) (i * k) (enc u) = flatK enc k (d.setIfInBounds i u) := by
  refine ext_get! (by simp) fun t ht => ?_
  have ht' : t < d.size * k := by simpa using ht
  have k0 : 0 < k := by
    rcases Nat.eq_zero_or_pos k with h | h
    · subst h; simp at ht'
    · exact h
  rw [get_setMany _ _ _ t (by simpa using ht'), get_flatK _ _ _ t ht', get_flatK _ _ _ t (by simpa using ht'), hk]
  by_cases a : t / k = i
  · rw [if_pos ((blk_iff k i t k0).2 a), a, getElem!_set_same d i u hi]
    congr 1
    subst a
    rw [Nat.mod_eq_sub_div_mul]
  · rw [if_neg (fun h => a ((blk_iff k i t k0).1 h)), getElem!_set_other d i _ u a]
theorem SWK_set {α : Type} [Inhabited α] {enc : α → List Value} {k : Nat} {w0 W : World} {blk : Nat} {dk : Array α} (hk : ∀ x, (enc x).length = k) (hblk : blk < w0.heap.size) (h : SWK enc k w0 blk 0 dk W) {i : Nat} (hi : i < dk.size) (u : α) :
    SWK enc k w0 blk 0 (dk.setIfInBounds i u) (W.setCells blk (0 + i * k) (enc u)) := by
  obtain ⟨n, os, rfl⟩ := h
  refine ⟨n, os, ?_⟩
  have hb : i * k + k ≤ dk.size * k := by
    have := Nat.mul_le_mul_right k (show i + 1 ≤ dk.size from hi); rwa [Nat.add_mul, Nat.one_mul] at this
  unfold sortWorldK putRowK
  rw [setCells_grow os blk _ _ _ (by rw [Go.Sort.size_putRow]; exact hblk), setCells_putRow _ _ _ _ _ _ (by rw [hk, size_flatK]; exact hb), setMany_set enc k hk dk i u hi]
theorem lay_size {α : Type} [Inhabited α] : ∀ (xs : List α) (d : Array α) (k : Nat), (lay d k xs).size = d.size
  | [], d, k => rfl
  | x :: r, d, k => by rw [lay, lay_size r]; simp
theorem SWK_clear {α : Type} [Inhabited α] {enc : α → List Value} {k : Nat} {w0 W : World} {blk : Nat} {dk : Array α} (hk : ∀ x, (enc x).length = k) (hblk : blk < w0.heap.size) (h : SWK enc k w0 blk 0 dk W) {i : Nat} (hi : i ≤ dk.size) (z : α) (v : Value) (hz : enc z = List.replicate k v) :
    SWK enc k w0 blk 0 (lay dk i (List.replicate (dk.size - i) z)) (W.setCells blk (0 + i * k) (List.replicate ((dk.size - i) * k) v)) := by
  obtain ⟨n, os, rfl⟩ := h
  refine ⟨n, os, ?_⟩
  have hb : i * k + (dk.size - i) * k = dk.size * k := by rw [← Nat.add_mul]; congr 1; omega
  unfold sortWorldK putRowK
  rw [setCells_grow os blk _ _ _ (by rw [Go.Sort.size_putRow]; exact hblk), setCells_putRow _ _ _ _ _ _ (by rw [List.length_replicate, size_flatK]; omega)]
  have hls : (lay dk i (List.replicate (dk.size - i) z)).size = dk.size := lay_size _ _ _
  have e : setMany (flatK enc k dk) (i * k) (List.replicate ((dk.size - i) * k) v) = flatK enc k (lay dk i (List.replicate (dk.size - i) z)) := by
    refine ext_get! (by rw [size_setMany, size_flatK, size_flatK, hls]) fun t ht => ?_
    have ht' : t < dk.size * k := by simpa using ht
    have k0 : 0 < k := by
      rcases Nat.eq_zero_or_pos k with h | h
      · subst h; simp at ht'
      · exact h
    have htk : t / k < dk.size := (Nat.div_lt_iff_lt_mul k0).2 ht'
    rw [get_setMany _ _ _ t (by simpa using ht'), get_flatK _ _ _ t ht', get_flatK _ _ _ t (by rw [hls]; exact ht'), List.length_replicate]
    have hl : (lay dk i (List.replicate (dk.size - i) z))[t / k]! = if i ≤ t / k then z else dk[t / k]! := by
      have h1 := lay_get? (List.replicate (dk.size - i) z) dk i (t / k) (by simp; omega)
      rw [getElem!_pos _ _ (by rw [hls]; exact htk), ← Option.some_inj, ← Array.getElem?_eq_getElem, h1]
      simp only [List.length_replicate]
      by_cases c : i ≤ t / k
      · rw [if_pos c, if_pos (by omega), List.getElem?_replicate, if_pos (by omega)]
      · rw [if_neg c, if_neg (by omega), getElem!_pos dk _ htk, Array.getElem?_eq_getElem]
    rw [hl]
    by_cases c : i ≤ t / k
    · have c' : i * k ≤ t := (Nat.le_div_iff_mul_le k0).1 c
      rw [if_pos c, if_pos ⟨c', by omega⟩, hz]
      rw [getElem!_pos _ _ (by simp; omega), getElem!_pos _ _ (by simpa using Nat.mod_lt t k0)]
      simp
    · have c' : ¬ i * k ≤ t := fun h => c ((Nat.le_div_iff_mul_le k0).2 h)
      rw [if_neg c, if_neg fun h => c' h.1]
  rw [e]
theorem run_clear_k {P : Program} (w : World) (t e ty : TypeId) (z v : Value) (k : Nat) (ht : P.underlying t = some (.slice e)) (hv : ∀ w, (zeroValue e).run P w = .ok z w) (hz : z.cells = Array.replicate k v) (h1 : v.oneCell' = true) (hk : 0 < k) (b o n c : Nat) (hn : 0 < n)
    (hc : ∀ j, j < n * k → (w.cell? ⟨b, o + j, none⟩).isSome = true) (hf : ∀ j, j < n * k → w.frozen? ⟨b, o + j, none⟩ = false) :
    (Builtin.clear_ #[t] ty #[.slice (some ⟨b, o, none⟩) n c]).run P w = .ok (.tuple #[]) (w.setCells b o (List.replicate (n * k) v)) := by
  have hzc : (Builtin.zeroCells z.cells n).toList = List.replicate (n * k) v := by
    rw [hz]
    simp [Builtin.zeroCells]
    apply List.ext_getElem
    · simp
    · intro i h1 h2
      simp [Nat.mod_lt i hk]
  have hst := run_storeCells_cells (P := P) b o (List.replicate (n * k) v) 0 w (by simpa using hc) (by simpa using hf) (by intro u hu; rw [List.eq_of_mem_replicate hu]; exact h1)
  simp only [Nat.add_zero] at hst
  obtain ⟨m, rfl⟩ : ∃ m, n = m + 1 := ⟨n - 1, by omega⟩
  simp [Builtin.clear_, run_underlying ht, hv, hzc, hst]
end PM
