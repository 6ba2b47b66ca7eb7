/- Models of the functions, or plain laws about them; each theorem states its own conditions. -/
import Derived.Test.YtlcgddghildedaaW12
import Derived.Test.YtlcgddghildedaaSr
import Derived.RegionTactic
import Derived.ChangeAlike
import Derived.BigRegion
import Derived.Deep.RegionHeld3
import Derived.Deep.AppendLies
set_option linter.unusedVariables false
set_option linter.unusedSimpArgs false
open Go Go.Proofs Go.RowKit PM
namespace X
set_option maxRecDepth 100000
set_option maxHeartbeats 4000000
theorem own_form {w : World} {base e size n : Nat} {v : Value} {xs : List Value} (h : w.ownsRow base e size v n xs) : ∃ b c, v = .slice b n c := by
  rcases h.2 with ⟨rfl, rfl⟩ | ⟨g, c, cur, rfl, _⟩
  · exact ⟨none, 0, rfl⟩
  · exact ⟨_, c, rfl⟩
structure MkV where
  at_ : Nat
  r : VL
  c : VL
  m : VL
def cellsOf (n0 : Int) (k : MkV) : List Value := [.int .i64 k.at_, k.r.1, k.c.1, k.m.1, .int .i64 n0]
def xsOf (n0 : Int) (ms : List MkV) : List Value := ms.flatMap (cellsOf n0)
def vsOf (ms : List MkV) : List VL := ms.flatMap fun k => [k.r, k.c, k.m]
def stOf (ms : List MkV) : St := ms.map fun k => (k.at_, k.r.2, k.c.2)
theorem form_I {w : World} {lo : Nat} {v : Value} {l : List Int} (h : OwnI w lo v l) (hl : 0 < l.length) : ∃ g c, v = .slice (some ⟨g, 0, none⟩) l.length c := own_some h fun e => by
  rcases h.2 with ⟨_, e'⟩ | ⟨g, c, cur, e', _⟩
  · omega
  · rw [e'] at e; cases e
structure RelS (code : List (List Int)) (c0 m0 : List Int) (n0 : Int) (b9 b10 b11 : Nat) (fc fm : Value) (fin : Int × List Int × List Int) (w : World) (i : Nat) (R C : List Int) (ms : List MkV) (u3 u12 cv mv : Value) (wr : World) : Prop where
  run : Run code c0 i R C (stOf ms) fin
  lR : R.length = 4
  lC : C.length = 8
  mks : ∀ k ∈ ms, k.r.2.length = 4 ∧ k.c.2.length = 8 ∧ k.m.2 = m0 ∧ k.at_ < code.length
  mi : ms.length ≤ i
  i2 : i ≤ 2000
  bel : Below w.heap.size w wr
  h9 : wr.heap[b9]? = some (.cells #[fc, fm, .int .i64 n0] 135 (0, 0))
  h10 : wr.heap[b10]? = some (.cells #[.int .i64 0, .slice none 0 0, .slice none 0 0, .slice none 0 0, .int .i64 0] 328 (0, 0))
  h11 : wr.heap[b11]? = some (.cells #[cv, mv, .int .i64 n0] 135 (0, 0))
  sep : Sep wr w.heap.size ((u3, R) :: (cv, C) :: (mv, m0) :: vsOf ms)
  own : wr.ownsRow w.heap.size 382 5 u12 ms.length (xsOf n0 ms.reverse)
theorem IArg_mono {w w' : World} {v : Value} {l : List Int} (h : IArg w v l) (hb : Below w.heap.size w w') : IArg w' v l := ArrV.mono (fun b hlt => ⟨Nat.lt_of_lt_of_le hlt hb.size, hb.block b hlt⟩) h
theorem cell_at {w : World} {b : Nat} {c : Array Value} {T : TypeId} (h : w.heap[b]? = some (.cells c T (0, 0))) (j : Nat) (v : Value) (hj : c[j]? = some v) : w.cell? ⟨b, j, none⟩ = some v := by
  simp only [World.cell?, h]; simpa using hj
theorem aside {p : Prop} (h : p) : Aside p := h
/-- Where the loop begins. -/
theorem start {code : List (List Int)} {c0 m0 R0 : List Int} {n0 : Int} {fin : Int × List Int × List Int} {w W2 w3 w4 : World} {fc fm u3 u1 u2 : Value} (hR : Run code c0 0 R0 c0 [] fin) (hR0 : R0.length = 4) (hc0 : c0.length = 8)
    (e2 : W2 = (w.alloc (Obj.cells #[fc, fm, Value.int IntKind.i64 n0] 135)).alloc (Obj.cells #[Value.int IntKind.i64 0, Value.slice none 0 0, Value.slice none 0 0, Value.slice none 0 0, Value.int IntKind.i64 0] 328))
    (b3 : Below W2.heap.size W2 w3) (o3 : OwnI w3 w.heap.size u3 R0) (n3 : ∀ b, u3.ownBlock = some b → W2.heap.size ≤ b)
    (b4 : Below w3.heap.size w3 w4) (o1 : OwnI w4 w.heap.size u1 c0) (o2 : OwnI w4 w.heap.size u2 m0) (ap : Apart (u1, c0) (u2, m0)) (n1 : ∀ b, u1.ownBlock = some b → w3.heap.size ≤ b) (n2 : ∀ b, u2.ownBlock = some b → w3.heap.size ≤ b) :
    RelS code c0 m0 n0 w.heap.size (w.heap.size + 1) w4.heap.size fc fm fin w 0 R0 c0 [] u3 (.slice (some ⟨w4.heap.size + 1, 0, none⟩) 0 0) u1 u2 ((w4.alloc (Obj.cells #[u1, u2, .int .i64 n0] 135)).alloc (Obj.cells #[] 382)) := by
  have s2 : W2.heap.size = w.heap.size + 2 := by rw [e2]; simp
  have B2 : Below w.heap.size w W2 := by rw [e2]; exact ((Below.refl _ w).alloc (Nat.le_refl _) _).alloc (by simp) _
  have k9 : W2.heap[w.heap.size]? = some (Obj.cells #[fc, fm, .int .i64 n0] 135 (0, 0)) := by rw [e2, heap_alloc2_old]
  have k10 : W2.heap[w.heap.size + 1]? = some (Obj.cells #[.int .i64 0, .slice none 0 0, .slice none 0 0, .slice none 0 0, .int .i64 0] 328 (0, 0)) := by rw [e2, heap_alloc2_new]
  have s5 : (w4.alloc (Obj.cells #[u1, u2, .int .i64 n0] 135)).heap.size = w4.heap.size + 1 := by simp
  have B24 : Below W2.heap.size W2 w4 := b3.trans (b4.mono b3.size)
  have B56 : Below w4.heap.size w4 ((w4.alloc (Obj.cells #[u1, u2, .int .i64 n0] 135)).alloc (Obj.cells #[] 382)) := ((Below.refl _ w4).alloc (Nat.le_refl _) _).alloc (by simp) _
  have B26 := B24.trans (B56.mono B24.size)
  refine ⟨hR, hR0, hc0, (fun k hk => by cases hk), Nat.le_refl _, by omega, B2.trans (B26.mono B2.size), (B26.block _ (by omega)).trans k9, (B26.block _ (by omega)).trans k10, by rw [heap_alloc2_old], ?_, ?_⟩
  · have o3' := (o3.move (w' := w4) fun b hb => b4.block b (o3.blk hb).2.1)
    have sp : PM.Sep w4 w.heap.size [(u3, R0), (u1, c0), (u2, m0)] := by
      refine ⟨fun x hx => ?_, ?_⟩
      · rcases List.mem_cons.1 hx with rfl | hx
        · exact o3'
        · rcases List.mem_cons.1 hx with rfl | hx
          · exact o1
          · rw [List.mem_singleton] at hx; subst hx; exact o2
      · refine List.pairwise_cons.2 ⟨fun y hy b h1 h2 => ?_, List.pairwise_cons.2 ⟨fun y hy => by rw [List.mem_singleton] at hy; subst hy; exact ap, List.pairwise_singleton _ _⟩⟩
        have h3 := (o3.blk h1).2.1
        rcases List.mem_cons.1 hy with rfl | hy
        · have := n1 b h2; omega
        · rw [List.mem_singleton] at hy; subst hy
          have := n2 b h2; omega
    exact sp.move fun b _ hb => B56.block b hb
  · have h := heap_alloc_new (w4.alloc (Obj.cells #[u1, u2, .int .i64 n0] 135)) (Obj.cells #[] 382)
    rw [s5] at h
    have := B2.size
    have := B24.size
    exact ⟨rfl, .inr ⟨_, 0, #[], rfl, by omega, h, Nat.le_refl _, by decide, rfl, rfl⟩⟩
/-- Marks: what the walk's steps do. -/
theorem own_lift {w w' : World} {base e size n : Nat} {v : Value} {xs : List Value} (h : w.ownsRow base e size v n xs) (hb : Below w.heap.size w w') : w'.ownsRow base e size v n xs := own_move h fun b e => hb.block b (own_blk h e).2.1
section
variable {code : List (List Int)} {c0 m0 : List Int} {n0 : Int} {b9 b10 b11 : Nat} {fc fm : Value} {fin : Int × List Int × List Int} {w : World} {i : Nat} {R C : List Int} {ms : List MkV} {u3 u12 cv mv : Value} {wr w' : World}
theorem RelS.sizes (h : RelS code c0 m0 n0 b9 b10 b11 fc fm fin w i R C ms u3 u12 cv mv wr) : b9 < wr.heap.size ∧ b10 < wr.heap.size ∧ b11 < wr.heap.size := by
  have f : ∀ {b : Nat} {o : Obj}, wr.heap[b]? = some o → b < wr.heap.size := fun {b o} h => by
    rcases Nat.lt_or_ge b wr.heap.size with h' | h'
    · exact h'
    · rw [Array.getElem?_eq_none h'] at h; cases h
  exact ⟨f h.h9, f h.h10, f h.h11⟩
theorem RelS.next {fin' : Int × List Int × List Int} (h : RelS code c0 m0 n0 b9 b10 b11 fc fm fin w i R C ms u3 u12 cv mv wr) (hb : Below wr.heap.size wr w') {j : Nat} (hj : i ≤ j) (hj2 : j ≤ 2000) (hr : Run code c0 j R C (stOf ms) fin') : RelS code c0 m0 n0 b9 b10 b11 fc fm fin' w j R C ms u3 u12 cv mv w' := by
  obtain ⟨s1, s2, s3⟩ := h.sizes
  exact ⟨hr, h.lR, h.lC, h.mks, Nat.le_trans h.mi hj, hj2, h.bel.trans (hb.mono h.bel.size), (hb.block _ s1).trans h.h9, (hb.block _ s2).trans h.h10, (hb.block _ s3).trans h.h11, h.sep.move fun b _ hlt => hb.block b hlt, own_lift h.own hb⟩
theorem RelS.calc (h : RelS code c0 m0 n0 b9 b10 b11 fc fm fin w i R C ms u3 u12 cv mv wr) (hb : Below wr.heap.size wr w') {v' : Value} {R' : List Int} (ho : OwnI w' w.heap.size v' R') (hn : ∀ b, v'.ownBlock = some b → wr.heap.size ≤ b) (hl : R'.length = R.length) (hi : i + 1 ≤ 2000)
    (hr : Run code c0 (i + 1) R' C (stOf ms) fin) : RelS code c0 m0 n0 b9 b10 b11 fc fm fin w (i + 1) R' C ms v' u12 cv mv w' := by
  obtain ⟨s1, s2, s3⟩ := h.sizes
  have hs : PM.Sep w' w.heap.size ((cv, C) :: (mv, m0) :: vsOf ms) := (h.sep.sub (List.sublist_cons_self _ _)).move fun b _ hlt => hb.block b hlt
  exact ⟨hr, hl.trans h.lR, h.lC, h.mks, Nat.le_trans h.mi (Nat.le_succ _), hi, h.bel.trans (hb.mono h.bel.size), (hb.block _ s1).trans h.h9, (hb.block _ s2).trans h.h10, (hb.block _ s3).trans h.h11,
    hs.cons ho (fun x hx b e => (h.sep.own x (List.mem_cons_of_mem _ hx)).blk e |>.2.1) hn, own_lift h.own hb⟩
/-- The blocks of the numbers are none of the others'. -/
theorem RelS.ne (h : RelS code c0 m0 n0 b9 b10 b11 fc fm fin w i R C ms u3 u12 cv mv wr) {x : VL} (hx : x ∈ (u3, R) :: (cv, C) :: (mv, m0) :: vsOf ms) {b : Nat} (hb : x.1.ownBlock = some b) : b ≠ b9 ∧ b ≠ b10 ∧ b ≠ b11 ∧ u12.ownBlock ≠ some b ∧ w.heap.size ≤ b := by
  obtain ⟨c1, c2, cur, c3⟩ := (h.sep.own x hx).blk hb
  refine ⟨fun e => ?_, fun e => ?_, fun e => ?_, fun e => ?_, c1⟩
  · subst e; have := h.h9; rw [c3] at this; simp at this
  · subst e; have := h.h10; rw [c3] at this; simp at this
  · subst e; have := h.h11; rw [c3] at this; simp at this
  · obtain ⟨_, _, c, k⟩ := own_blk h.own e
    rw [c3] at k; simp at k
theorem set_size {w : World} {a : Addr} {v : Value} : (w.setCell a v).heap.size = w.heap.size := by simp [World.setCell]
theorem set_other {w : World} {g j b : Nat} {v : Value} (h : g ≠ b) : (w.setCell ⟨g, j, none⟩ v).heap[b]? = w.heap[b]? := by
  simp only [World.setCell, Array.getElem?_modify]
  simp [h]
theorem RelS.setR {fin' : Int × List Int × List Int} (h : RelS code c0 m0 n0 b9 b10 b11 fc fm fin w i R C ms u3 u12 cv mv wr) {g n c x : Nat} (hu : u3 = .slice (some ⟨g, 0, none⟩) n c) (hx : x < R.length) {y : Int} {j : Nat} (hj : i ≤ j) (hj2 : j ≤ 2000) (hr : Run code c0 j (R.set x y) C (stOf ms) fin') :
    RelS code c0 m0 n0 b9 b10 b11 fc fm fin' w j (R.set x y) C ms u3 u12 cv mv (wr.setCell ⟨g, x, none⟩ (.int .i64 y)) := by
  obtain ⟨n9, n10, n11, n12, nlo⟩ := h.ne (x := (u3, R)) (List.mem_cons_self ..) (b := g) (by rw [hu]; rfl)
  refine ⟨hr, by rw [List.length_set]; exact h.lR, h.lC, h.mks, Nat.le_trans h.mi hj, hj2, ⟨h.bel.os, h.bel.tape, h.bel.output, by rw [set_size]; exact h.bel.size, fun b hb => (set_other (by omega)).trans (h.bel.block b hb)⟩, (set_other n9).trans h.h9, (set_other n10).trans h.h10, (set_other n11).trans h.h11, h.sep.set hu hx y, own_move h.own fun b hb => set_other fun e => n12 (e ▸ hb)⟩
theorem RelS.setC {fin' : Int × List Int × List Int} (h : RelS code c0 m0 n0 b9 b10 b11 fc fm fin w i R C ms u3 u12 cv mv wr) {g n c x : Nat} (hu : cv = .slice (some ⟨g, 0, none⟩) n c) (hx : x < C.length) {y : Int} {j : Nat} (hj : i ≤ j) (hj2 : j ≤ 2000) (hr : Run code c0 j R (C.set x y) (stOf ms) fin') :
    RelS code c0 m0 n0 b9 b10 b11 fc fm fin' w j R (C.set x y) ms u3 u12 cv mv (wr.setCell ⟨g, x, none⟩ (.int .i64 y)) := by
  obtain ⟨n9, n10, n11, n12, nlo⟩ := h.ne (x := (cv, C)) (by simp) (b := g) (by rw [hu]; rfl)
  refine ⟨hr, h.lR, by rw [List.length_set]; exact h.lC, h.mks, Nat.le_trans h.mi hj, hj2, ⟨h.bel.os, h.bel.tape, h.bel.output, by rw [set_size]; exact h.bel.size, fun b hb => (set_other (by omega)).trans (h.bel.block b hb)⟩, (set_other n9).trans h.h9, (set_other n10).trans h.h10, (set_other n11).trans h.h11, ?_, own_move h.own fun b hb => set_other fun e => n12 (e ▸ hb)⟩
  exact ((h.sep.perm (List.Perm.swap ..)).set hu hx y).perm (List.Perm.swap ..)
end
theorem xs_len (n0 : Int) (ms : List MkV) : (xsOf n0 ms).length = ms.length * 5 := by
  induction ms with
  | nil => rfl
  | cons k ms ih =>
    show (cellsOf n0 k ++ xsOf n0 ms).length = _
    rw [List.length_append, ih, List.length_cons]; show 5 + _ = _; omega
theorem xs_rev (n0 : Int) (k : MkV) (ms : List MkV) : xsOf n0 (k :: ms).reverse = xsOf n0 ms.reverse ++ cellsOf n0 k := by
  unfold xsOf
  rw [List.reverse_cons, List.flatMap_append]
  simp
section
variable {code : List (List Int)} {c0 m0 : List Int} {n0 : Int} {b9 b10 b11 : Nat} {fc fm : Value} {fin : Int × List Int × List Int} {w : World} {i : Nat} {R C : List Int} {ms : List MkV} {k : MkV} {u3 u12 cv mv : Value} {wr w' : World}
theorem RelS.form12 (h : RelS code c0 m0 n0 b9 b10 b11 fc fm fin w i R C (k :: ms) u3 u12 cv mv wr) : ∃ g c, u12 = .slice (some ⟨g, 0, none⟩) (ms.length + 1) c := own_some h.own fun e => by
  rcases h.own.2 with ⟨_, e'⟩ | ⟨g, c, cur, e', _⟩
  · cases e'
  · rw [e'] at e; cases e
theorem RelS.top (h : RelS code c0 m0 n0 b9 b10 b11 fc fm fin w i R C (k :: ms) u3 u12 cv mv wr) {g n c : Nat} (hu : u12 = .slice (some ⟨g, 0, none⟩) n c) : wr.cell? ⟨g, ms.length * 5, none⟩ = some (.int .i64 k.at_) ∧ wr.cell? ⟨g, ms.length * 5 + 1, none⟩ = some k.r.1 ∧
    wr.cell? ⟨g, ms.length * 5 + 2, none⟩ = some k.c.1 ∧ wr.cell? ⟨g, ms.length * 5 + 3, none⟩ = some k.m.1 ∧ wr.cell? ⟨g, ms.length * 5 + 4, none⟩ = some (.int .i64 n0) := by
  subst hu
  have ho := h.own
  rw [xs_rev] at ho
  rcases ho.2 with ⟨e, _⟩ | ⟨g1, c1, cur, e, o1, o2, o3, o4, o5, o6⟩
  · cases e
  cases e
  have hl : (xsOf n0 ms.reverse).length = ms.length * 5 := by rw [xs_len, List.length_reverse]
  have key : ∀ (j : Nat) (v : Value), j < 5 → (cellsOf n0 k)[j]? = some v → wr.cell? ⟨g, ms.length * 5 + j, none⟩ = some v := fun j v hj hv => by
    have h1 : (xsOf n0 ms.reverse ++ cellsOf n0 k)[ms.length * 5 + j]? = some v := by
      rw [List.getElem?_append_right (by omega), hl, show ms.length * 5 + j - ms.length * 5 = j by omega]; exact hv
    rw [← o6, List.getElem?_take, if_pos (by simp only [List.length_cons]; omega)] at h1
    simp only [World.cell?, o2]
    simpa using h1
  exact ⟨key 0 _ (by omega) rfl, key 1 _ (by omega) rfl, key 2 _ (by omega) rfl, key 3 _ (by omega) rfl, key 4 _ (by omega) rfl⟩
theorem own_pop (ho : wr.ownsRow w.heap.size 382 5 u12 (k :: ms).length (xsOf n0 (k :: ms).reverse)) {g n c : Nat} (hu : u12 = .slice (some ⟨g, 0, none⟩) n c) : wr.ownsRow w.heap.size 382 5 (.slice (some ⟨g, 0, none⟩) ms.length c) ms.length (xsOf n0 ms.reverse) := by
  subst hu
  rw [xs_rev] at ho
  have hl : (xsOf n0 ms.reverse).length = ms.length * 5 := by rw [xs_len, List.length_reverse]
  rcases ho.2 with ⟨e, _⟩ | ⟨g1, c1, cur, e, o1, o2, o3, o4, o5, o6⟩
  · cases e
  cases e
  have o3 : ms.length + 1 ≤ c := o3
  refine ⟨hl, .inr ⟨g, c, cur, rfl, o1, o2, by omega, o4, o5, ?_⟩⟩
  have h5 : (k :: ms).length * 5 = ms.length * 5 + 5 := by simp only [List.length_cons]; omega
  rw [h5] at o6
  have h6 : (cur.toList.take (ms.length * 5 + 5)).take (ms.length * 5) = (xsOf n0 ms.reverse ++ cellsOf n0 k).take (ms.length * 5) := by rw [o6]
  rw [List.take_take, Nat.min_eq_left (by omega), ← hl, List.take_left, hl] at h6
  exact h6
theorem RelS.pop {fin' : Int × List Int × List Int} (h : RelS code c0 m0 n0 b9 b10 b11 fc fm fin w i R C (k :: ms) u3 u12 cv mv wr) {g n c : Nat} (hu : u12 = .slice (some ⟨g, 0, none⟩) n c) {j : Nat} (hj : i ≤ j) (hj2 : j ≤ 2000) (hr : Run code c0 j R C (stOf ms) fin') :
    RelS code c0 m0 n0 b9 b10 b11 fc fm fin' w j R C ms u3 (.slice (some ⟨g, 0, none⟩) ms.length c) cv mv wr := by
  have hsub : ((u3, R) :: (cv, C) :: (mv, m0) :: vsOf ms).Sublist ((u3, R) :: (cv, C) :: (mv, m0) :: vsOf (k :: ms)) := .cons_cons _ (.cons_cons _ (.cons_cons _ (.cons _ (.cons _ (.cons _ (List.Sublist.refl _))))))
  exact ⟨hr, h.lR, h.lC, fun x hx => h.mks x (List.mem_cons_of_mem _ hx), by have := h.mi; simp only [List.length_cons] at this; omega, hj2, h.bel, h.h9, h.h10, h.h11, h.sep.sub hsub, own_pop h.own hu⟩
/-- The state goes back to the last mark. -/
theorem RelS.back {fin' : Int × List Int × List Int} (h : RelS code c0 m0 n0 b9 b10 b11 fc fm fin w i R C (k :: ms) u3 u12 cv mv wr) (hb11 : w.heap.size ≤ b11) (hb : b9 ≠ b11 ∧ b10 ≠ b11) {g n c : Nat} (hu : u12 = .slice (some ⟨g, 0, none⟩) n c) {j : Nat} (hj : i ≤ j) (hj2 : j ≤ 2000) (hr : Run code c0 j k.r.2 k.c.2 (stOf ms) fin') :
    RelS code c0 m0 n0 b9 b10 b11 fc fm fin' w j k.r.2 k.c.2 ms k.r.1 (.slice (some ⟨g, 0, none⟩) ms.length c) k.c.1 k.m.1 (((wr.setCell ⟨b11, 0, none⟩ k.c.1).setCell ⟨b11, 1, none⟩ k.m.1).setCell ⟨b11, 2, none⟩ (.int .i64 n0)) := by
  obtain ⟨k1, k2, k3, k4⟩ := h.mks k (List.mem_cons_self ..)
  have hs : ∀ b', b11 ≠ b' → (((wr.setCell ⟨b11, 0, none⟩ k.c.1).setCell ⟨b11, 1, none⟩ k.m.1).setCell ⟨b11, 2, none⟩ (.int .i64 n0)).heap[b']? = wr.heap[b']? := fun b' h => by rw [set_other h, set_other h, set_other h]
  have e1 := set_heap (u := k.c.1) (j := 0) h.h11 b11
  rw [if_pos rfl] at e1
  have e2 := set_heap (u := k.m.1) (j := 1) e1 b11
  rw [if_pos rfl] at e2
  have e3 := set_heap (u := Value.int .i64 n0) (j := 2) e2 b11
  rw [if_pos rfl] at e3
  have hsub : ((k.r.1, k.r.2) :: (k.c.1, k.c.2) :: (k.m.1, m0) :: vsOf ms).Sublist ((u3, R) :: (cv, C) :: (mv, m0) :: vsOf (k :: ms)) := by
    have e : (k.m.1, m0) = k.m := by rw [← k3]
    rw [e]
    exact .cons _ (.cons _ (.cons _ (List.Sublist.refl _)))
  have hp := (own_pop h.own hu)
  refine ⟨hr, k1, k2, fun x hx => h.mks x (List.mem_cons_of_mem _ hx), by have := h.mi; simp only [List.length_cons] at this; omega, hj2, ⟨h.bel.os, h.bel.tape, h.bel.output, by simp only [set_size]; exact h.bel.size, fun b' hb' => (hs b' (by omega)).trans (h.bel.block b' hb')⟩, (hs _ (fun e => hb.1 e.symm)).trans h.h9, (hs _ (fun e => hb.2 e.symm)).trans h.h10, e3, ?_, ?_⟩
  · have hse := h.sep.sub hsub
    exact ⟨fun x hx => (hse.own x hx).move fun b' hb' => hs b' fun e => (h.ne (hsub.subset hx) hb').2.2.1 e.symm, hse.apart⟩
  · refine own_move hp fun b' hb' => hs b' fun e => ?_
    subst e
    obtain ⟨_, _, cur, o⟩ := own_blk hp hb'
    have := h.h11
    rw [o] at this
    simp at this
end
theorem RelS.setR0 {code : List (List Int)} {c0 m0 : List Int} {n0 : Int} {b9 b10 b11 : Nat} {fc fm : Value} {fin fin' : Int × List Int × List Int} {w : World} {i : Nat} {R C : List Int} {ms : List MkV} {u3 u12 cv mv : Value} {wr : World} (h : RelS code c0 m0 n0 b9 b10 b11 fc fm fin w i R C ms u3 u12 cv mv wr) {g n c x : Nat} (hu : u3 = .slice (some ⟨g, 0, none⟩) n c) (hx : x < R.length) {y : Int} {j : Nat} (hj : ms.length ≤ j) (hj2 : j ≤ 2000) (hr : Run code c0 j (R.set x y) C (stOf ms) fin') :
    RelS code c0 m0 n0 b9 b10 b11 fc fm fin' w j (R.set x y) C ms u3 u12 cv mv (wr.setCell ⟨g, x, none⟩ (.int .i64 y)) := by
  obtain ⟨n9, n10, n11, n12, nlo⟩ := h.ne (x := (u3, R)) (List.mem_cons_self ..) (b := g) (by rw [hu]; rfl)
  exact ⟨hr, by rw [List.length_set]; exact h.lR, h.lC, h.mks, hj, hj2, ⟨h.bel.os, h.bel.tape, h.bel.output, by rw [set_size]; exact h.bel.size, fun b hb => (set_other (by omega)).trans (h.bel.block b hb)⟩, (set_other n9).trans h.h9, (set_other n10).trans h.h10, (set_other n11).trans h.h11, h.sep.set hu hx y, own_move h.own fun b hb => set_other fun e => n12 (e ▸ hb)⟩
theorem h3 {a b c : VL} (ms : List MkV) : [a, b, c].Sublist (a :: b :: c :: vsOf ms) := .cons_cons _ (.cons_cons _ (.cons_cons _ (List.nil_sublist _)))
/-- The result's box is written. -/
abbrev w5s (W : World) (b : Nat) (y0 y1 y2 y3 y4 : Value) : World := ((((W.setCell ⟨b, 0, none⟩ y0).setCell ⟨b, 1, none⟩ y1).setCell ⟨b, 2, none⟩ y2).setCell ⟨b, 3, none⟩ y3).setCell ⟨b, 4, none⟩ y4
theorem set5 {W : World} {b T : Nat} {x0 x1 x2 x3 x4 : Value} (y0 y1 y2 y3 y4 : Value) (h : W.heap[b]? = some (Obj.cells #[x0, x1, x2, x3, x4] T (0, 0))) : (w5s W b y0 y1 y2 y3 y4).heap[b]? = some (Obj.cells #[y0, y1, y2, y3, y4] T (0, 0)) := by
  have h1 := (set_heap (u := y0) (j := 0) h b)
  rw [if_pos rfl] at h1
  have h2 := (set_heap (u := y1) (j := 1) h1 b)
  rw [if_pos rfl] at h2
  have h3 := (set_heap (u := y2) (j := 2) h2 b)
  rw [if_pos rfl] at h3
  have h4 := (set_heap (u := y3) (j := 3) h3 b)
  rw [if_pos rfl] at h4
  have h5 := (set_heap (u := y4) (j := 4) h4 b)
  rw [if_pos rfl] at h5
  exact h5
theorem last5 {w W : World} {b lo : Nat} {vs : List VL} (y0 y1 y2 y3 y4 : Value) (hlo : w.heap.size ≤ b) (hB : Below w.heap.size w W) (hS : PM.Sep W lo vs) (hne : ∀ x ∈ vs, x.1.ownBlock ≠ some b) :
    Below w.heap.size w (w5s W b y0 y1 y2 y3 y4) ∧ PM.Sep (w5s W b y0 y1 y2 y3 y4) lo vs := by
  have hs : ∀ b', b ≠ b' → (w5s W b y0 y1 y2 y3 y4).heap[b']? = W.heap[b']? := fun b' h => by
    rw [set_other h, set_other h, set_other h, set_other h, set_other h]
  exact ⟨⟨hB.os, hB.tape, hB.output, by simp only [w5s, set_size]; exact hB.size, fun b' hb => (hs b' (by omega)).trans (hB.block b' hb)⟩, ⟨fun x hx => (hS.own x hx).move fun b' hb => hs b' fun e => hne x hx (e ▸ hb), hS.apart⟩⟩
/-- A mark is laid. -/
theorem RelS.push {code : List (List Int)} {c0 m0 : List Int} {n0 : Int} {b9 b10 b11 : Nat} {fc fm : Value} {fin fin' : Int × List Int × List Int} {w : World} {i : Nat} {R C : List Int} {ms : List MkV} {u3 u12 cv mv r1 v1 v2 v' : Value} {wr W w' : World} (h : RelS code c0 m0 n0 b9 b10 b11 fc fm fin w i R C ms u3 u12 cv mv wr)
    (hb : Below wr.heap.size wr W) (o1 : OwnI W w.heap.size r1 R) (o2 : OwnI W w.heap.size v1 C) (o3 : OwnI W w.heap.size v2 m0) (n1 : ∀ b, r1.ownBlock = some b → wr.heap.size ≤ b) (n2 : ∀ b, v1.ownBlock = some b → wr.heap.size ≤ b) (n3 : ∀ b, v2.ownBlock = some b → wr.heap.size ≤ b)
    (a1 : Apart (r1, R) (v1, C)) (a2 : Apart (r1, R) (v2, m0)) (a3 : Apart (v1, C) (v2, m0)) (ho : w'.ownsRow w.heap.size 382 5 v' (ms.length + 1) (xsOf n0 ms.reverse ++ cellsOf n0 ⟨i, (r1, R), (v1, C), (v2, m0)⟩)) (hg : W.grownBy w' u12.ownBlock) (hi : i < code.length) (hi2 : i + 1 ≤ 2000)
    (hr : Run code c0 (i + 1) R C ((i, R, C) :: stOf ms) fin') : RelS code c0 m0 n0 b9 b10 b11 fc fm fin' w (i + 1) R C (⟨i, (r1, R), (v1, C), (v2, m0)⟩ :: ms) u3 v' cv mv w' := by
  obtain ⟨s1, s2, s3⟩ := h.sizes
  have hW := h.next hb (Nat.le_refl i) h.i2 h.run
  obtain ⟨t1, t2, t3⟩ := hW.sizes
  have tne : ∀ {b : Nat} {c : Array Value} {T : TypeId}, W.heap[b]? = some (.cells c T (0, 0)) → T ≠ 382 → some b ≠ u12.ownBlock := fun {b c T} h1 hT e => by
    obtain ⟨_, _, cur, k⟩ := own_blk hW.own e.symm
    rw [h1] at k
    simp only [Option.some.injEq, Obj.cells.injEq] at k
    exact hT k.2.1
  have mvI : ∀ {v : Value} {l : List Int}, OwnI W w.heap.size v l → OwnI w' w.heap.size v l := fun {v l} ho => ho.move fun b hb => by
    obtain ⟨_, c2, cur, c3⟩ := ho.blk hb
    exact hg.block b c2 (tne c3 (by decide))
  have hsep : PM.Sep w' w.heap.size ((u3, R) :: (cv, C) :: (mv, m0) :: vsOf ms) := ⟨fun x hx => mvI (hW.sep.own x hx), h.sep.apart⟩
  have hlt : ∀ x ∈ (u3, R) :: (cv, C) :: (mv, m0) :: vsOf ms, ∀ b, x.1.ownBlock = some b → b < wr.heap.size := fun x hx b hb => ((h.sep.own x hx).blk hb).2.1
  have bel : Below w.heap.size w w' := ⟨hg.os.trans hW.bel.os, hg.tape.trans hW.bel.tape, hg.output.trans hW.bel.output, Nat.le_trans hW.bel.size hg.size, fun b hb' => (hg.block b (Nat.lt_of_lt_of_le hb' hW.bel.size) fun e => by have := (own_blk hW.own e.symm).1; omega).trans (hW.bel.block b hb')⟩
  refine ⟨hr, h.lR, h.lC, fun x hx => ?_, by have := h.mi; simp only [List.length_cons]; omega, hi2, bel, (hg.block _ t1 (tne hW.h9 (by decide))).trans hW.h9, (hg.block _ t2 (tne hW.h10 (by decide))).trans hW.h10, (hg.block _ t3 (tne hW.h11 (by decide))).trans hW.h11, ?_, by rw [xs_rev]; exact ho⟩
  · rcases List.mem_cons.1 hx with rfl | hx
    · exact ⟨h.lR, h.lC, rfl, hi⟩
    · exact h.mks x hx
  · have hnew : PM.Sep w' w.heap.size ((r1, R) :: (v1, C) :: (v2, m0) :: (u3, R) :: (cv, C) :: (mv, m0) :: vsOf ms) := by
      refine ⟨fun x hx => ?_, List.pairwise_cons.2 ⟨fun y hy b e1 e2 => ?_, List.pairwise_cons.2 ⟨fun y hy b e1 e2 => ?_, List.pairwise_cons.2 ⟨fun y hy b e1 e2 => ?_, hsep.apart⟩⟩⟩⟩
      · rcases List.mem_cons.1 hx with rfl | hx
        · exact mvI o1
        · rcases List.mem_cons.1 hx with rfl | hx
          · exact mvI o2
          · rcases List.mem_cons.1 hx with rfl | hx
            · exact mvI o3
            · exact hsep.own x hx
      · rcases List.mem_cons.1 hy with rfl | hy
        · exact a1 b e1 e2
        · rcases List.mem_cons.1 hy with rfl | hy
          · exact a2 b e1 e2
          · have := hlt y hy b e2; have := n1 b e1; omega
      · rcases List.mem_cons.1 hy with rfl | hy
        · exact a3 b e1 e2
        · have := hlt y hy b e2; have := n2 b e1; omega
      · have := hlt y hy b e2; have := n3 b e1; omega
    exact hnew.perm (List.perm_append_comm (l₁ := [(r1, R), (v1, C), (v2, m0)]) (l₂ := [(u3, R), (cv, C), (mv, m0)]) |>.append_right (vsOf ms))
theorem lay5 (w : World) (T : TypeId) (a b c d e : Value) : ∀ (j : Nat) (u : Value), [a, b, c, d, e][j]? = some u → (w.alloc (Obj.cells #[a, b, c, d, e] T)).cell? ((⟨w.heap.size, 0, none⟩ : Addr).add j) = some u := by
  intro j u hu
  have h := heap_alloc_new w (Obj.cells #[a, b, c, d, e] T)
  rw [Addr.add_lit, Nat.zero_add]
  simp only [World.cell?, h]
  match j, hu with
  | 0, hu => simpa using hu
  | 1, hu => simpa using hu
  | 2, hu => simpa using hu
  | 3, hu => simpa using hu
  | 4, hu => simpa using hu
theorem infoM : (Try.prog.info? 382).map (fun i => (i.zero, i.size, i.bytes)) = some (some (.agg #[.int .i64 0, .slice none 0 0, .slice none 0 0, .slice none 0 0, .int .i64 0]), 5, 88) := by kernel_rfl
end X
