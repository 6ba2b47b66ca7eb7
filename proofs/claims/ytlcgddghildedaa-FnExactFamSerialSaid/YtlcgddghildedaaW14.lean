/- Models of the functions, or plain laws about them; each theorem states its own conditions. -/
import Derived.Test.YtlcgddghildedaaW13
import Derived.Test.YtlcgddghildedaaW13n
set_option linter.unusedVariables false
set_option linter.unusedSimpArgs false
open Go Go.Proofs Go.RowKit PM
namespace PM
theorem OwnI.owns {cx : Cx} {w : World} {lo : Nat} {v : Value} {l : List Int} {okf : Nat → Prop} (h : OwnI w lo v l) : OwnArr cx w okf (.ints 3 .i64 l) v v.ownBlock.toList := by
  have hl : (rowsOf (.ints 3 .i64 l)).length = l.length := by show (l.map _).length = _; simp
  have h0 : w.ownsRow 0 3 1 v l.length (l.map (Value.int .i64)) := by
    refine ⟨h.1, ?_⟩
    rcases h.2 with h | ⟨g, c, cur, rfl, h1, h2⟩
    · exact .inl h
    · exact .inr ⟨g, c, cur, rfl, Nat.zero_le _, h2⟩
  refine ⟨[.int .i64], l.map (Value.int .i64), rfl, Nat.zero_lt_one, fun r hr => by obtain ⟨x, _, rfl⟩ := List.mem_map.1 (show r ∈ l.map fun x => [C.i x] from hr); rfl, by rw [hl]; exact h0, rfl, fun i j hi hj => ?_⟩
  rw [hl] at hi
  have hj : j < 1 := hj
  obtain rfl : j = 0 := by omega
  refine ⟨.int .i64 (l.getD i 0), ?_, ?_⟩
  · show (l.map (Value.int .i64))[i * 1 + 0]? = _
    rw [show i * 1 + 0 = i by omega, List.getElem?_map, List.getElem?_eq_getElem hi, List.getD_eq_getElem?_getD, List.getElem?_eq_getElem hi]; rfl
  · have : asInt (cOf (rowsOf (.ints 3 .i64 l)) i 0) = l.getD i 0 := by
      show asInt (cAt ((l.map fun x => [C.i x]).getD i []) 0) = _
      rw [List.getD_eq_getElem?_getD, List.getElem?_map, List.getElem?_eq_getElem hi, List.getD_eq_getElem?_getD, List.getElem?_eq_getElem hi]; rfl
    show CellV cx w _ (.int .i64) (cOf (rowsOf (.ints 3 .i64 l)) i 0) (.int .i64 (l.getD i 0))
    rw [← this]; exact .int _ _
end PM
namespace X
theorem nodup3 {a b c : Option Nat} (h1 : ∀ x, a = some x → b ≠ some x) (h2 : ∀ x, a = some x → c ≠ some x) (h3 : ∀ x, b = some x → c ≠ some x) : (a.toList ++ (b.toList ++ (c.toList ++ []))).Nodup := by
  cases a <;> cases b <;> cases c <;> simp_all [eq_comm]
/-- What serial does on a kid's code. -/
def SerialOk (code : List (List Int)) (regs cells map : List Int) (cnt : Int) (fin : Int × List Int × List Int) : Prop :=
  Run code cells 0 regs cells [] fin ∧ ∀ k, spec_l7Walk std code [] [] regs cells map cnt k = k fin.1 fin.2.1 fin.2.2 map cnt
open Classical in
noncomputable def serialX : impl_serial_T := fun code _ _ regs cells map cnt k =>
  if h : (code.length ≤ 100 ∧ regs.length = 4 ∧ cells.length = 8 ∧ map.length = 8) ∧ ∃ fin, SerialOk code regs cells map cnt fin then
    k h.2.choose.1 h.2.choose.2.1 h.2.choose.2.2 map cnt
  else none
theorem serialX_g : PM.GOk Try.prog cx 240 ⟨[], impl_serial_w serialX, none⟩ := by
  refine ⟨impl_serial_fn.enter, fun _ ds k r h => ?_, fun hm => absurd rfl hm, fun _ e => (by cases e)⟩
  change impl_serial_w serialX ds k = some r at h
  unfold impl_serial_w at h
  split at h
  case h_2 => cases h
  rename_i code kids order regs cells map cnt
  unfold serialX at h
  split at h
  case isFalse => cases h
  rename_i hh
  have hR := hh.2.choose_spec
  revert hR h
  generalize hh.2.choose = fin
  intro h hR
  obtain ⟨⟨h1, h2, h3, h4⟩, -⟩ := hh
  refine ⟨_, h, fun w vs ha => ?_⟩
  match vs, ha with
  | [v0, v1, v2, v3, v4], ⟨a0, a1, a2, a3, h5, _⟩ =>
    obtain ⟨us, rfl, a4⟩ := h5
    match us, a4 with
    | [fc, fm, u2], ⟨b0, b1, b2, _⟩ =>
      have b2 : u2 = .int .i64 cnt := b2
      subst b2
      have fin_ : ∀ e w', (∃ rv' cv' mv', e = Ending.returned (.agg #[.int .i64 fin.1, rv', cv', mv', .int .i64 cnt]) ∧ Below w.heap.size w w' ∧ PM.Sep w' w.heap.size [(rv', fin.2.1), (cv', fin.2.2), (mv', map)]) → Done cx w (.agg [.int .i64 fin.1, .arr (.ints 3 .i64 fin.2.1), .arr (.ints 3 .i64 fin.2.2), .arr (.ints 3 .i64 map), .int .i64 cnt]) e w' := by
        rintro e w' ⟨rv, cv, mv, rfl, hB, hS⟩
        have o1 := hS.own (rv, fin.2.1) (by simp)
        have o2 := hS.own (cv, fin.2.2) (by simp)
        have o3 := hS.own (mv, map) (by simp)
        have hp := hS.apart
        simp only [List.pairwise_cons] at hp
        obtain ⟨hp1, hp2, _⟩ := hp
        refine ⟨_, rv.ownBlock.toList ++ (cv.ownBlock.toList ++ (mv.ownBlock.toList ++ [])), fun _ => False, rfl, hB, ⟨[_, rv, cv, mv, _], rfl, [], _, rfl, ⟨rfl, rfl⟩, _, _, rfl, o1.owns, _, _, rfl, o2.owns, _, _, rfl, o3.owns, [], [], rfl, ⟨rfl, rfl⟩, rfl⟩, nodup3 (hp1 (cv, fin.2.2) (by simp)) (hp1 (mv, map) (by simp)) (hp2 (mv, map) (by simp)), fun b hb => ?_, fun b hb => hb.elim⟩
        simp only [List.append_nil, List.mem_append, Option.mem_toList] at hb
        rcases hb with hb | hb | hb
        · exact ⟨(o1.blk hb).1, (o1.blk hb).2.1⟩
        · exact ⟨(o2.blk hb).1, (o2.blk hb).2.1⟩
        · exact ⟨(o3.blk hb).1, (o3.blk hb).2.1⟩
      have hlr : (rowsOf (.vecs 312 4 code)).length = code.length := by show (code.map _).length = _; simp
      have a0 : ArrV cx w (fun b => b < w.heap.size) (.vecs 312 4 code) v0 := a0
      have a0' := a0
      obtain ⟨sh, s1, s2, s3⟩ := a0
      obtain rfl : sh = List.replicate 4 (K.int IntKind.i64) := by
        have : shAK cx (akOf (.vecs 312 4 code)) = some (List.replicate 4 (K.int IntKind.i64)) := by rfl
        rw [this] at s1; cases s1; rfl
      rcases s3 with ⟨e0, base, cap, rfl⟩ | ⟨⟨cb, co, sp⟩, cap, f, rfl, rfl, q1, q2, q3, q4⟩
      · have hz : code.length = 0 := by rw [← hlr, e0]; rfl
        exact (serial_nil (kv := v1) (ov := v2) hR.1 hz h2 h3 h4 a3 b0 b1).mono fun e w' hq => fin_ e w' hq
      · rw [hlr] at a0' ⊢
        refine (serial_c (kv := v1) (ov := v2) hR.1 h1 h2 h3 h4 (fun i j hi hj => ?_) q2 a0' a3 b0 b1).mono fun e w' hq => fin_ e w' hq
        have hlen : (List.replicate 4 (K.int IntKind.i64)).length = 4 := rfl
        have h5 := q3 i j (by rw [hlr]; exact hi) hj
        have h6 := q4 i j (by rw [hlr]; exact hi) hj
        have hk : (List.replicate 4 (K.int IntKind.i64)).getD j .bool = .int .i64 := by
          match j, hj with
          | 0, _ => rfl
          | 1, _ => rfl
          | 2, _ => rfl
          | 3, _ => rfl
        rw [hk] at h6
        rw [h6.int_inv] at h5
        rw [hlen] at h5
        have hc : asInt (cOf (rowsOf (.vecs 312 4 code)) i j) = opG code i j := by
          show asInt (cAt ((code.map fun r => r.map C.i).getD i []) j) = (code.getD i []).getD j 0
          unfold cAt
          simp only [List.getD_eq_getElem?_getD, List.getElem?_map, List.getElem?_eq_getElem hi, Option.map_some, Option.getD_some]
          cases (code[i])[j]? <;> rfl
        rw [hc] at h5
        exact h5
end X
