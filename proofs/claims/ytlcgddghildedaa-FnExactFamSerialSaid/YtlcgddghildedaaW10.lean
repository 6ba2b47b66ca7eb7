/- Models of the functions, or plain laws about them; each theorem states its own conditions. -/
import Derived.Test.YtlcgddghildedaaNOv
import Derived.Test.YtlcgddghildedaaDs
import Derived.Test.YtlcgddghildedaaProg
import Derived.ProofKit
import Derived.WalkKit
import Derived.Below
import Derived.KernelRfl
set_option linter.unusedVariables false
set_option linter.unusedSimpArgs false
open Go Go.Proofs Go.RowKit PM
namespace X
set_option maxRecDepth 100000
set_option maxHeartbeats 4000000
/-! The callees of serial, as calls. -/
abbrev IArg (w : World) (v : Value) (l : List Int) : Prop := ArrV cx w (fun b => b < w.heap.size) (.ints 3 .i64 l) v
theorem l1_cons {w : World} {okf : Nat → Prop} {d : V} {ds : List V} {vs : List Value} {bs : List Nat} (h : OwnL1 cx w okf (d :: ds) vs bs) : ∃ v vs' b1 b2, vs = v :: vs' ∧ bs = b1 ++ b2 ∧ Own1 cx w okf d v b1 ∧ OwnL1 cx w okf ds vs' b2 := by
  cases vs with
  | nil => exact h.elim
  | cons v vs => obtain ⟨b1, b2, h1, h2, h3⟩ := h; exact ⟨v, vs, b1, b2, rfl, h1, h2, h3⟩
theorem l1_nil {w : World} {okf : Nat → Prop} {vs : List Value} {bs : List Nat} (h : OwnL1 cx w okf [] vs bs) : vs = [] ∧ bs = [] := by
  cases vs with
  | nil => exact ⟨rfl, h⟩
  | cons v vs => exact h.elim
theorem la_cons {w : World} {okf : Nat → Prop} {d : V} {ds : List V} {vs : List Value} {bs : List Nat} (h : OwnLA cx w okf (d :: ds) vs bs) : ∃ v vs' b1 b2, vs = v :: vs' ∧ bs = b1 ++ b2 ∧ OwnA cx w okf d v b1 ∧ OwnLA cx w okf ds vs' b2 := by
  cases vs with
  | nil => exact h.elim
  | cons v vs => obtain ⟨b1, b2, h1, h2, h3⟩ := h; exact ⟨v, vs, b1, b2, rfl, h1, h2, h3⟩
theorem la_nil {w : World} {okf : Nat → Prop} {vs : List Value} {bs : List Nat} (h : OwnLA cx w okf [] vs bs) : vs = [] ∧ bs = [] := by
  cases vs with
  | nil => exact ⟨rfl, h⟩
  | cons v vs => exact h.elim
theorem copy_c {w : World} {lo : Nat} {v : Value} {l : List Int} (hlo : lo ≤ w.heap.size) (ha : IArg w v l) (hb : l.length ≤ 1048576) :
    Calls Try.prog 101 #[v] w fun e w' => ∃ v', e = .returned v' ∧ Below w.heap.size w w' ∧ OwnI w' lo v' l ∧ ∀ b, v'.ownBlock = some b → w.heap.size ≤ b := by
  obtain ⟨d, hd, hc⟩ := impl_copyInts_g.run rfl [.arr (.ints 3 .i64 l)] some (.arr (.ints 3 .i64 l)) (copyInts_val l hb fun r0 => some (.arr (.ints 3 .i64 r0)))
  cases hd
  refine (hc w [v] ⟨ha, trivial⟩).mono fun e w' hq => ?_
  obtain ⟨vv, bs, okf, rfl, h1, h2, h3, h4, h5⟩ := hq
  obtain ⟨e1, e2⟩ := own_ints (lo := lo) (show OwnArr cx w' okf _ _ _ from h2) fun b hb => Nat.le_trans hlo (h4 b hb).1
  exact ⟨vv, rfl, h1, e2, fun b hb => (h4 b (by rw [e1, hb]; simp)).1⟩
theorem things_val (c m : List Int) (n : Int) (hb1 : c.length ≤ 1048576) (hb2 : m.length ≤ 1048576) (k : List Int → List Int → Int → PM.R) : impl_copyThings std c m n k = k c m n := by
  unfold impl_copyThings impl_copyThings_f
  simp only [copyInts_val c hb1, copyInts_val m hb2]
theorem things_c {w : World} {lo : Nat} {v1 v2 : Value} {c m : List Int} {n : Int} (hlo : lo ≤ w.heap.size) (h1 : IArg w v1 c) (h2 : IArg w v2 m) (hb1 : c.length ≤ 1048576) (hb2 : m.length ≤ 1048576) :
    Calls Try.prog 293 #[.agg #[v1, v2, .int .i64 n]] w fun e w' => ∃ u1 u2, e = .returned (.agg #[u1, u2, .int .i64 n]) ∧ Below w.heap.size w w' ∧ OwnI w' lo u1 c ∧ OwnI w' lo u2 m ∧ Apart (u1, c) (u2, m) ∧ (∀ b, u1.ownBlock = some b → w.heap.size ≤ b) ∧ ∀ b, u2.ownBlock = some b → w.heap.size ≤ b := by
  obtain ⟨d, hd, hc⟩ := impl_copyThings_g.run rfl [.agg [.arr (.ints 3 .i64 c), .arr (.ints 3 .i64 m), .int .i64 n]] some (.agg [.arr (.ints 3 .i64 c), .arr (.ints 3 .i64 m), .int .i64 n]) (things_val c m n hb1 hb2 fun r0 r1 r2 => some (.agg [.arr (.ints 3 .i64 r0), .arr (.ints 3 .i64 r1), .int .i64 r2]))
  cases hd
  refine (hc w [.agg #[v1, v2, .int .i64 n]] ⟨⟨[v1, v2, .int .i64 n], rfl, h1, h2, rfl, trivial⟩, trivial⟩).mono fun e w' hq => ?_
  obtain ⟨vv, bs, okf, rfl, q1, q2, q3, q4, q5⟩ := hq
  obtain ⟨vs, rfl, q6⟩ := (show ∃ vs, vv = .agg vs.toArray ∧ OwnL1 cx w' okf _ vs bs from q2)
  clear q2
  obtain ⟨u1, vs, b1, bs, rfl, rfl, o1, q6⟩ := l1_cons q6
  obtain ⟨u2, vs, b2, bs, rfl, rfl, o2, q6⟩ := l1_cons q6
  obtain ⟨u3, vs, b3, bs, rfl, rfl, o3, q6⟩ := l1_cons q6
  obtain ⟨rfl, rfl⟩ := l1_nil q6
  obtain ⟨rfl, rfl⟩ := (show u3 = .int .i64 n ∧ b3 = [] from o3)
  obtain ⟨e1, f1⟩ := own_ints (lo := lo) (show OwnArr cx w' okf _ _ _ from o1) fun b hb => Nat.le_trans hlo (q4 b (by simp [hb])).1
  obtain ⟨e2, f2⟩ := own_ints (lo := lo) (show OwnArr cx w' okf _ _ _ from o2) fun b hb => Nat.le_trans hlo (q4 b (by simp [hb])).1
  refine ⟨u1, u2, rfl, q1, f1, f2, fun b h1 h2 => ?_, fun b hb => (q4 b (by simp [e1, hb])).1, fun b hb => (q4 b (by simp [e2, hb])).1⟩
  have h1 : u1.ownBlock = some b := h1
  have h2 : u2.ownBlock = some b := h2
  rw [e1, e2, h1, h2] at q3
  simp at q3
theorem calc_c {w : World} {lo : Nat} {v : Value} {R R' : List Int} {K A B Cc : Int} {t : Bool} (hlo : lo ≤ w.heap.size) (ha : IArg w v R) (hk : ∀ k, impl_Calc std K A B Cc R k = k R' t) :
    Calls Try.prog 294 #[.agg #[.int .i64 K, .int .i64 A, .int .i64 B, .int .i64 Cc], v] w fun e w' => ∃ v', e = .returned (.tuple #[v', .bool t]) ∧ Below w.heap.size w w' ∧ OwnI w' lo v' R' ∧ ∀ b, v'.ownBlock = some b → w.heap.size ≤ b := by
  obtain ⟨d, hd, hc⟩ := impl_Calc_g.run rfl [.agg [.int .i64 K, .int .i64 A, .int .i64 B, .int .i64 Cc], .arr (.ints 3 .i64 R)] some (.tup [.arr (.ints 3 .i64 R'), .bool t]) (hk fun r0 r1 => some (.tup [.arr (.ints 3 .i64 r0), .bool r1]))
  cases hd
  refine (hc w [.agg #[.int .i64 K, .int .i64 A, .int .i64 B, .int .i64 Cc], v] ⟨⟨[.int .i64 K, .int .i64 A, .int .i64 B, .int .i64 Cc], rfl, rfl, rfl, rfl, rfl, trivial⟩, ha, trivial⟩).mono fun e w' hq => ?_
  obtain ⟨vv, bs, okf, rfl, q1, q2, q3, q4, q5⟩ := hq
  obtain ⟨vs, rfl, q6⟩ := (show ∃ vs, vv = .tuple vs.toArray ∧ OwnLA cx w' okf _ vs bs from q2)
  clear q2
  obtain ⟨u1, vs, b1, bs, rfl, rfl, o1, q6⟩ := la_cons q6
  obtain ⟨u2, vs, b2, bs, rfl, rfl, o2, q6⟩ := la_cons q6
  obtain ⟨rfl, rfl⟩ := la_nil q6
  obtain ⟨rfl, rfl⟩ := (show u2 = .bool t ∧ b2 = [] from o2)
  obtain ⟨e1, f1⟩ := own_ints (lo := lo) (show OwnArr cx w' okf _ _ _ from o1) fun b hb => Nat.le_trans hlo (q4 b (by simp [hb])).1
  exact ⟨u1, rfl, q1, f1, fun b hb => (q4 b (by simp [e1, hb])).1⟩
theorem endof_c {w : World} {v : Value} {code : List (List Int)} {a z : Int} (ha : ArrV cx w (fun b => b < w.heap.size) (.vecs 312 4 code) v) (hk : ∀ k, impl_EndOf std code a k = k z) :
    Calls Try.prog 295 #[v, .int .i64 a] w fun e w' => e = .returned (.int .i64 z) ∧ Below w.heap.size w w' := by
  obtain ⟨d, hd, hc⟩ := impl_EndOf_g.run rfl [.arr (.vecs 312 4 code), .int .i64 a] some (.int .i64 z) (hk fun r0 => some (.int .i64 r0))
  cases hd
  refine (hc w [v, .int .i64 a] ⟨ha, rfl, trivial⟩).mono fun e w' hq => ?_
  obtain ⟨vv, bs, okf, rfl, q1, q2, q3, q4, q5⟩ := hq
  obtain ⟨rfl, rfl⟩ := own_int q2
  exact ⟨rfl, q1⟩
end X
