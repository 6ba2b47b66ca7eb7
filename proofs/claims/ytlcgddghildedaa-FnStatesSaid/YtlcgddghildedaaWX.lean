/- Models of the functions, or plain laws about them; each theorem states its own conditions. -/
import Derived.Test.YtlcgddghildedaaW9
set_option linter.unusedVariables false
set_option linter.unusedSimpArgs false
open Go Go.Proofs Go.RowKit PM
namespace X
set_option maxRecDepth 100000
set_option maxHeartbeats 4000000
/-- Owned rows of owned slices, as a result. -/
theorem deep_owns {w : World} {lo T U u : Nat} {v : Value} {es : List E3} {xs : List Value} {p : Nat → Value} {ys : Nat → List Value} {ty : Ty} (hT : PM.shAK cx (.rows T) = some [.int .i64, .int .i64, .sl u]) (hu : PM.find cx u = some ty) (he : ty.elem = some (.vecs U 2))
    (h : Deep w lo T U v es xs p ys) : OwnR cx w (fun b => ∃ i, i < es.length ∧ (p i).ownBlock = some b) (.arr (.rows T (es.map toRow))) v v.ownBlock.toList := by
  have hlen : (rowsOf (.rows T (es.map toRow))).length = es.length := by show (es.map toRow).length = _; simp
  refine (show OwnArr cx w _ _ _ _ from ⟨_, xs, hT, Nat.succ_pos _, fun r hr => ?_, by rw [hlen]; exact Deep.own_low h, rfl, fun i j hi hj => ?_⟩)
  · obtain ⟨e, _, rfl⟩ := List.mem_map.1 (show r ∈ es.map toRow from hr)
    rfl
  · rw [hlen] at hi
    have hat := h.at_ hi
    generalize hg : es[i] = e at hat
    obtain ⟨c1, c2, c3⟩ := h.cell i e hat
    have hr : (rowsOf (.rows T (es.map toRow))).getD i [] = toRow e := by
      show (es.map toRow).getD i [] = _
      rw [List.getD_eq_getElem?_getD, List.getElem?_map, hat]; rfl
    unfold cOf
    rw [hr]
    have hj3 : j < 3 := hj
    match j, hj3 with
    | 0, _ => exact ⟨_, c1, .int _ _⟩
    | 1, _ => exact ⟨_, c2, .int _ _⟩
    | 2, _ =>
      refine ⟨_, c3, ?_⟩
      obtain ⟨r1, r2, r3⟩ := h.row i e hat
      have hl : (std.ofv e.2.2).length = e.2.2.length := by show (e.2.2.map _).length = _; simp
      show CellV cx w _ (.sl u) (.s (std.ofv e.2.2)) (p i)
      rcases r1.2 with ⟨e1, e2⟩ | ⟨g, c, cur, e1, e2, e3, e4, e5, e6, e7⟩
      · rw [e1]
        exact .emp u _ none 0 (List.length_eq_zero_iff.1 (hl.trans e2))
      · have hpo : (p i).ownBlock = some g := by rw [e1]; rfl
        rw [e1]
        have := CellV.sl (cx := cx) (w := w) (ok := fun b => ∃ i, i < es.length ∧ (p i).ownBlock = some b) u ty (.vecs U 2) (List.replicate 2 (.int .i64)) (.s (std.ofv e.2.2)) ⟨g, 0, none⟩ c (fun q j => .int .i64 (asInt (cOf (std.ofv e.2.2) q j))) hu he rfl rfl
          (by show (std.ofv e.2.2).length ≤ c; omega) ⟨i, hi, hpo⟩ (fun r hr => by
            obtain ⟨r', h', rfl⟩ := List.mem_map.1 (show r ∈ e.2.2.map (·.map C.i) from hr)
            rw [List.length_map]; exact r2 r' h') (fun q j hq hj => by
            have hq : q < e.2.2.length := by rw [← hl]; exact hq
            have hj : j < 2 := hj
            have hy := r3 q j hq hj
            have hlt : q * 2 + j < e.2.2.length * 2 := by omega
            rw [← e7, List.getElem?_take, if_pos hlt] at hy
            show w.cell? ⟨g, 0 + (q * 2 + j), none⟩ = _
            rw [Nat.zero_add, ofv_get]
            simp only [World.cell?, e3]
            simpa using hy) (fun q j hq hj => by
            have hk : (List.replicate 2 (K.int IntKind.i64)).getD j .bool = .int .i64 := by
              have hj : j < 2 := hj
              match j, hj with
              | 0, _ => rfl
              | 1, _ => rfl
            rw [hk]; exact .int _ _)
        rw [show (asRows (C.s (std.ofv e.2.2))).length = e.2.2.length from hl] at this
        exact this
noncomputable def spec_l11AnyX : spec_l11Any_T := fun b i h k =>
  if 0 ≤ i ∧ i ≤ (b.length : Int) ∧ b.length ≤ 1048576 then
    spec_l11Hist std b i h fun r1 r2 r3 r4 => bif std.eq (std.rlen r1) 0 then spec_l11Any std b i h k else
      spec_l1Below std r2 r3 r4 (std.rlen r1) fun r5 r6 r7 r8 => spec_l1Below std r6 r7 r8 20 fun r9 r10 r11 r12 => bif std.eq r9 3 then k (anyR r1 r5) r10 r11 r12 else spec_l11Any std b i h k
  else none
theorem Hist_dr (code : List Int) (i h : Int) (ha : At code i) : ∃ (es : List E3) (i' h' : Int), es.length ≤ 5 ∧ (∀ e ∈ es, SmallR 1000 e.2.2) ∧ At code i' ∧ ∀ k, spec_l11Hist std code i h k = k (es.map toRow) code i' h' := by
  obtain ⟨x, i1, h1, p1, a1, k1⟩ := Below_pos code i h 6 ha (by omega)
  obtain ⟨es, i', h', q1, q2, q3, q4⟩ := Hist_l code x.toNat std.fuel 0 i1 h1 [] (by rw [std_fuel]; omega) a1 (by simp; omega) (fun _ h => by cases h) (by omega) (by omega)
  rw [show ((x.toNat : Nat) : Int) = x by omega] at q4
  refine ⟨es, i', h', q1, q2, q3, fun k => ?_⟩
  have k1 : ∀ k, spec_l1Below std code i h 6 k = k x code i1 h1 := k1
  unfold spec_l11Hist spec_l11Hist_f
  rw [k1]
  exact q4 _
theorem AnyX_b : BoxOk Try.prog cx 95 (spec_l11Any_w spec_l11AnyX) := by
  intro ds k r hh
  have hfall := spec_l11Any_b ds k r
  unfold spec_l11Any_w at hh hfall
  split at hh
  case h_2 => cases hh
  rename_i code i h
  simp only at hfall
  unfold spec_l11AnyX at hh
  split at hh
  case isFalse => cases hh
  rename_i ha
  have ha : At code i := ha
  obtain ⟨es, i1, h1, q1, q2, a1, kH⟩ := Hist_dr code i h ha
  rw [kH] at hh
  have hlen : (es.map toRow).length = es.length := by simp
  by_cases hz : es.length = 0
  · have e : std.eq (std.rlen (es.map toRow)) 0 = true := by rw [std_rlen, hlen, hz]; rfl
    rw [e, bt] at hh
    exact hfall hh
  have e : std.eq (std.rlen (es.map toRow)) 0 = false := by rw [std_rlen, hlen, std_eq]; exact beq_eq_false_iff_ne.2 (by omega)
  rw [e, bf] at hh
  obtain ⟨x5, i2, h2, p5, a2, k1⟩ := Below_pos code i1 h1 ((es.map toRow).length : Int) a1 (by omega)
  obtain ⟨x9, i3, h3, p9, a3, k2⟩ := Below_dr code i2 h2 20 a2
  have k1 : ∀ k, spec_l1Below std code i1 h1 ((es.map toRow).length : Int) k = k x5 code i2 h2 := k1
  have k2 : ∀ k, spec_l1Below std code i2 h2 20 k = k x9 code i3 h3 := k2
  rw [std_rlen, k1, k2] at hh
  by_cases h3' : x9 = 3
  · subst h3'
    have e3 : std.eq 3 3 = true := rfl
    rw [e3, bt] at hh
    refine ⟨_, hh, fun gd w B vs hA => ?_⟩
    obtain ⟨cs, rest, l, T, ws, e1, rfl, hB, hcs, hws⟩ := hA
    simp only [List.cons.injEq, V.tup.injEq] at e1
    obtain ⟨rfl, rfl⟩ := e1
    match ws, hws with
    | [], _ =>
      match l, hcs with
      | [sv, v2, v3], ⟨c1, c2, c3, _⟩ =>
        have c2 : v2 = _ := c2
        have c3 : v3 = _ := c3
        subst c2 c3
        have hBs : B < w.heap.size := by
          rcases Nat.lt_or_ge B w.heap.size with h | h
          · exact h
          · rw [Array.getElem?_eq_none h] at hB; cases hB
        have hX : Bx cx w B (fun b => b < w.heap.size ∧ ¬ gd b) code i h := ⟨sv, T, hB, ArrV.mono (fun b hb => ⟨⟨hb.1, hb.2.1, fun hn => hn.2 hb.2.2⟩, rfl⟩) c1⟩
        have hq : ((x5.toNat : Nat) : Int) = x5 := by omega
        refine (any_c (q := x5.toNat) ha hX hBs (fun b h => h.1) kH (by omega) (by rw [hq]; exact k1) k2).mono fun e w' hp => ?_
        obtain ⟨es', v, xs, p, ys, e1, rfl, hF, hD, sv', T', b1, b2⟩ := hp
        rw [hq] at e1
        have hml : ∀ b, (b < w'.heap.size ∧ b ≠ B ∧ ¬ MineX (fun b => b < w.heap.size ∧ ¬ gd b) v es' p b) → (b < w'.heap.size ∧ b ≠ B ∧ b ∉ v.ownBlock.toList ∧ (b < w.heap.size → gd b)) ∧ w'.heap[b]? = w'.heap[b]? := fun b hb =>
          ⟨⟨hb.1, hb.2.1, fun hm => hb.2.2 (.inr (.inl (Option.mem_toList.1 hm))), fun hlt => Classical.byContradiction fun hg => hb.2.2 (.inl ⟨hlt, hg⟩)⟩, rfl⟩
        have hown := deep_owns (u := 31) (by rfl) (by rfl) rfl hD
        rw [e1] at hown
        refine ⟨v, v.ownBlock.toList, (fun b => ∃ i, i < es'.length ∧ (p i).ownBlock = some b), _, _, _, T', rfl, rfl, hF.os, hF.tape, hF.output, hF.size, hF.block, b1, rfl, ⟨ArrV.mono hml b2, rfl, rfl, trivial⟩, hown, ?_, fun b hb => ?_, fun b hb => ?_⟩
        · cases v.ownBlock <;> simp
        · exact ⟨(hD.vblk (Option.mem_toList.1 hb)).1, (hD.vblk (Option.mem_toList.1 hb)).2⟩
        · obtain ⟨k, hk, hb⟩ := hb
          have := own_blk (hD.row k _ (hD.at_ hk)).1 hb
          obtain ⟨b1, b2, cur, b3⟩ := this
          exact ⟨b1, b2, fun hm => hD.pv (by decide) hk hb (Option.mem_toList.1 hm), cur, _, b3⟩
  · have e3 : std.eq x9 3 = false := by rw [std_eq]; exact beq_eq_false_iff_ne.2 h3'
    rw [e3, bf] at hh
    exact hfall hh
end X
