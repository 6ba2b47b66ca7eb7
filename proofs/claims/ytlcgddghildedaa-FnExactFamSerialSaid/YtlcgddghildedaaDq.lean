/- Models of the functions, or plain laws about them; each theorem states its own conditions. -/
import Derived.Test.YtlcgddghildedaaDp
import Derived.Maps.AppendAt
set_option linter.unusedVariables false
set_option linter.unusedSimpArgs false
namespace PM
open Go RowKit
/-! The box of a reader, and calls that turn it. -/
section
variable {P : Program} {cx : Cx}
structure Fx (B : Nat) (w w' : World) : Prop where
  os : w'.os = w.os
  tape : w'.tape = w.tape
  output : w'.output = w.output
  size : w.heap.size ≤ w'.heap.size
  block : ∀ b, b < w.heap.size → b ≠ B → w'.heap[b]? = w.heap[b]?
theorem Fx.refl {B : Nat} {w : World} : Fx B w w := ⟨rfl, rfl, rfl, Nat.le_refl _, fun _ _ _ => rfl⟩
theorem Fx.trans {B : Nat} {w w' w'' : World} (h : Fx B w w') (g : Fx B w' w'') : Fx B w w'' :=
  ⟨g.os.trans h.os, g.tape.trans h.tape, g.output.trans h.output, Nat.le_trans h.size g.size, fun b hb hn => (g.block b (Nat.lt_of_lt_of_le hb h.size) hn).trans (h.block b hb hn)⟩

def Bx (cx : Cx) (w : World) (B : Nat) (mine : Nat → Prop) (code : List Int) (i h : Int) : Prop :=
  ∃ sv T, w.heap[B]? = some (.cells #[sv, .int .i64 i, .int .i64 h] T (0, 0)) ∧ ArrV cx w (fun b => b < w.heap.size ∧ b ≠ B ∧ ¬ mine b) (.ints 5 .u8 code) sv
theorem Bx.go {w w' : World} {B : Nat} {mine mine' : Nat → Prop} {code : List Int} {i h : Int} (hb : Bx cx w B mine code i h) (hB : w'.heap[B]? = w.heap[B]?) (hs : w.heap.size ≤ w'.heap.size)
    (hk : ∀ b, b < w.heap.size → b ≠ B → ¬ mine b → w'.heap[b]? = w.heap[b]?) (hm : ∀ b, mine' b → mine b ∨ w.heap.size ≤ b) : Bx cx w' B mine' code i h := by
  obtain ⟨sv, T, h1, h2⟩ := hb
  refine ⟨sv, T, hB.trans h1, ArrV.mono (fun b hb => ⟨⟨Nat.lt_of_lt_of_le hb.1 hs, hb.2.1, fun hm' => ?_⟩, hk b hb.1 hb.2.1 hb.2.2⟩) h2⟩
  rcases hm b hm' with h | h
  · exact hb.2.2 h
  · have := hb.1; omega
theorem box_calls {f : FuncId} {g : List V → (V → R) → R} (hb : BoxOk P cx f g) {code : List Int} {i h i' h' : Int} {d0 : V} {ds : List V} {vs : List Value} {w : World} {B : Nat} {mine : Nat → Prop}
    (hg : ∀ k : V → R, g (.tup [.arr (.ints 5 .u8 code), .int .i64 i, .int .i64 h] :: ds) k = k (.tup [d0, .tup [.arr (.ints 5 .u8 code), .int .i64 i', .int .i64 h']]))
    (hB : Bx cx w B mine code i h) (hm : ∀ b, mine b → b < w.heap.size) (hds : All2 (VA cx w (fun b => b < w.heap.size ∧ b ≠ B ∧ ¬ mine b) [] ι00) ds vs) :
    Calls P f (Value.pointer (some ⟨B, 0, none⟩) :: vs).toArray w fun e w' => ∃ vv bs okf, e = .returned vv ∧ OwnR cx w' okf d0 vv bs ∧ (∀ b ∈ bs, w.heap.size ≤ b ∧ b < w'.heap.size) ∧ Fx B w w' ∧ Bx cx w' B (fun b => mine b ∨ b ∈ bs) code i' h' := by
  obtain ⟨sv, T, h1, h2⟩ := hB
  obtain ⟨d, hd, hc⟩ := hb _ some _ (hg some)
  cases hd
  refine (hc (fun b => ¬ mine b) w B _ ⟨_, ds, [sv, .int .i64 i, .int .i64 h], T, vs, rfl, rfl, h1, ⟨h2, rfl, rfl, trivial⟩, hds⟩).mono fun e w' hq => ?_
  obtain ⟨vv, bs, okf, d1, cs, l, T', rfl, hd1, q1, q2, q3, q4, q5, q6, _, q7, q8, _, q9, _⟩ := hq
  simp only [V.tup.injEq, List.cons.injEq, and_true] at hd1
  obtain ⟨rfl, rfl⟩ := hd1
  refine ⟨vv, bs, okf, rfl, q8, q9, ⟨q1, q2, q3, q4, q5⟩, ?_⟩
  match l, q7 with
  | [a, b, c], ⟨e1, e2, e3, _⟩ =>
    have e2 : b = _ := e2
    have e3 : c = _ := e3
    subst e2 e3
    refine ⟨a, T', q6, ArrV.mono (fun b hb => ⟨⟨hb.1, hb.2.1, fun hm' => ?_⟩, rfl⟩) e1⟩
    rcases hm' with h | h
    · exact hb.2.2.2 (hm b h) h
    · exact hb.2.2.1 h
theorem own_int {w : World} {okf : Nat → Prop} {x : Int} {vv : Value} {bs : List Nat} (h : OwnR cx w okf (.int .i64 x) vv bs) : vv = .int .i64 x ∧ bs = [] := h
theorem own_bool {w : World} {okf : Nat → Prop} {x : Bool} {vv : Value} {bs : List Nat} (h : OwnR cx w okf (.bool x) vv bs) : vv = .bool x ∧ bs = [] := h
theorem own_up {w : World} {base lo e size n : Nat} {v : Value} {xs : List Value} (h : w.ownsRow base e size v n xs) (hl : ∀ b, v.ownBlock = some b → lo ≤ b) : w.ownsRow lo e size v n xs := by
  refine ⟨h.1, ?_⟩
  rcases h.2 with h | ⟨g, c, cur, rfl, h1, h2⟩
  · exact .inl h
  · exact .inr ⟨g, c, cur, rfl, hl g rfl, h2⟩
theorem ofv_get {l : List (List Int)} {q j : Nat} : asInt (cOf (std.ofv l) q j) = (l.getD q []).getD j 0 := by
  have e : (std.ofv l).getD q [] = (l.getD q []).map C.i := by
    show (l.map (·.map C.i)).getD q [] = _
    rw [List.getD_eq_getElem?_getD, List.getD_eq_getElem?_getD, List.getElem?_map]
    cases l[q]? <;> rfl
  unfold cOf cAt
  rw [e]
  generalize l.getD q [] = r
  rw [List.getD_eq_getElem?_getD, List.getD_eq_getElem?_getD, List.getElem?_map]
  cases r[j]? <;> rfl
theorem own_rows {w : World} {okf : Nat → Prop} {U lo : Nat} {l : List (List Int)} {vv : Value} {bs : List Nat} (h : OwnR cx w okf (.arr (.vecs U 2 l)) vv bs) (hl : ∀ b ∈ bs, lo ≤ b) :
    bs = vv.ownBlock.toList ∧ ∃ ys, RowsAt w lo U vv l ys := by
  obtain ⟨sh, xs, h1, h2, h3, h4, h5, h6⟩ := (h : OwnArr cx w okf _ _ _)
  have hsh : sh = List.replicate 2 (.int .i64) := by
    simp only [akOf, shAK, Option.some.injEq] at h1; exact h1.symm
  subst hsh
  have hr : rowsOf (.vecs U 2 l) = std.ofv l := rfl
  rw [hr] at h3 h4 h6
  have hlen : (std.ofv l).length = l.length := by show (l.map _).length = _; simp
  rw [hlen] at h4 h6
  refine ⟨h5, xs, own_up h4 fun b hb => hl b (by rw [h5, hb]; simp), fun r hr => ?_, fun q j hq hj => ?_⟩
  · have := h3 (r.map C.i) (List.mem_map.2 ⟨r, hr, rfl⟩)
    simpa using this
  · obtain ⟨cv, c1, c2⟩ := h6 q j hq (by simpa using hj)
    have e : (List.replicate 2 (K.int .i64)).length = 2 := rfl
    rw [e] at c1
    rw [c1]
    have hk : (List.replicate 2 (K.int IntKind.i64)).getD j .bool = .int .i64 := by
      match j, hj with
      | 0, _ => rfl
      | 1, _ => rfl
    rw [hk] at c2
    rw [c2.int_inv, ofv_get]
theorem own_some {w : World} {base e size n : Nat} {v : Value} {xs : List Value} (h : w.ownsRow base e size v n xs) (hv : v ≠ .slice none 0 0) : ∃ g c, v = .slice (some ⟨g, 0, none⟩) n c := by
  rcases h.2 with ⟨rfl, _⟩ | ⟨g, c, cur, rfl, _⟩
  · exact absurd rfl hv
  · exact ⟨g, c, rfl⟩
abbrev Mine (v : Value) (es : List E3) (p : Nat → Value) (b : Nat) : Prop := v.ownBlock = some b ∨ ∃ i, i < es.length ∧ (p i).ownBlock = some b
abbrev MineX (M0 : Nat → Prop) (v : Value) (es : List E3) (p : Nat → Value) (b : Nat) : Prop := M0 b ∨ Mine v es p b
theorem app_step {w W w' : World} {lo T U B : Nat} {M : Nat → Prop} {code : List Int} {i h : Int} {v1 v2 v' : Value} {es1 es2 : List E3} {xs1 xs2 : List Value} {p1 p2 : Nat → Value} {ys1 ys2 : Nat → List Value} (hTU : U ≠ T) (hlo : lo = w.heap.size)
    (h1 : Deep W lo T U v1 es1 xs1 p1 ys1) (h2 : Deep W lo T U v2 es2 xs2 p2 ys2) (hd : ∀ i j b, i < es1.length → j < es2.length → (p1 i).ownBlock = some b → (p2 j).ownBlock ≠ some b)
    (ho : w'.ownsRow lo T 3 v' (es1.length + es2.length) (xs1 ++ xs2)) (hg : W.grownBy w' v1.ownBlock) (hat : v'.ownBlock = v1.ownBlock ∨ v'.ownBlock = some W.heap.size)
    (hX : Bx cx W B M code i h) (hF : Fx B w W) (hB : B < w.heap.size) {M0 : Nat → Prop} (m0 : ∀ b, M0 b → M b) (m1 : ∀ b, v1.ownBlock = some b → M b) (m2 : ∀ i b, i < es1.length → (p1 i).ownBlock = some b → M b) (m3 : ∀ i b, i < es2.length → (p2 i).ownBlock = some b → M b) :
    ∃ p ys, Deep w' lo T U v' (es1 ++ es2) (xs1 ++ xs2) p ys ∧ Bx cx w' B (MineX M0 v' (es1 ++ es2) p) code i h ∧ Fx B w w' := by
  subst hlo
  have hne : some B ≠ v1.ownBlock := fun e => by have := (h1.vblk e.symm).1; omega
  refine ⟨_, _, h1.app hTU h2 hd ho hg, hX.go (hg.block B (Nat.lt_of_lt_of_le hB hF.size) hne) hg.size (fun b b1 _ b3 => hg.block b b1 fun e => b3 (m1 b e.symm)) ?_, hF.os |> fun _ => ⟨hg.os.trans hF.os, hg.tape.trans hF.tape, hg.output.trans hF.output, Nat.le_trans hF.size hg.size, fun b b1 b2 => (hg.block b (Nat.lt_of_lt_of_le b1 hF.size) fun e => by have := (h1.vblk e.symm).1; omega).trans (hF.block b b1 b2)⟩⟩
  rintro b (hb | hb | ⟨k, hk, hb⟩)
  · exact .inl (m0 b hb)
  · rcases hat with e | e
    · exact .inl (m1 b (e ▸ hb))
    · rw [e] at hb; cases hb; exact .inr (Nat.le_refl _)
  · by_cases hk1 : k < es1.length
    · simp only [hk1, if_true] at hb; exact .inl (m2 k b hk1 hb)
    · simp only [hk1, if_false] at hb
      exact .inl (m3 _ b (by rw [List.length_append] at hk; omega) hb)
theorem wpList_append_at {w : World} {ops : Array Oper} {rest : List Oper} {o : Oper} {a : Act} {Q : Exit → Act → World → Prop} (hgd : o.guard = none) (s x : Operand) (t : TypeId)
    (ho : o.op = .call { callee := .builtin .append, args := #[s, x], argTypes := #[t, t] }) (base : Nat) (e : TypeId) (i : TypeInfo) (z : Value) (size bytes : Nat) (ht : P.underlying t = some (.slice e)) (hi : P.info? e = some i)
    (hz : i.zero = some z) (hsize : i.size = size) (hby : i.bytes = bytes) (hzs : z.cells.size = size) (hsz : 0 < size) {v : Value} {n : Nat} {xs : List Value} (hown : w.ownsRow base e size v n xs) (hs : a.eval s = v)
    {ad : Addr} {m c : Nat} {news : List Value} (hx : a.eval x = .slice (some ad) m c) (hl : news.length = m * size) (hnews : ∀ j u, news[j]? = some u → w.cell? (ad.add j) = some u) (h1 : ∀ u ∈ news, u.oneCell' = true)
    (h63 : n + m ≤ maxLen) (hbytes : (n + m) * bytes ≤ 140737488355328) (hbase : base ≤ w.heap.size)
    (h : ∀ v' w', w'.ownsRow base e size v' (n + m) (xs ++ news) → w.grownBy w' v.ownBlock → (v' = .slice none 0 0 ↔ v = .slice none 0 0 ∧ m = 0) → (v'.ownBlock = v.ownBlock ∨ v'.ownBlock = some w.heap.size) → wpList P ops Q rest (a.put o.dst v') w') : wpList P ops Q (o :: rest) a w := by
  refine wpList_plain hgd fun _ hK => ?_
  obtain ⟨v', w', hr, h2, h3, h4, h5⟩ := run_append_own_at (P := P) w base t o.type e i z size bytes ht hi hz hsize hby hzs hsz v n xs hown ad m c news hl hnews h1 h63 hbytes hbase
  unfold Oper.wp execOp
  simp only [ho, resolve, invoke, builtin, Sem.run_bind, Sem.run_pure, Result.andThen_ok, List.map_toArray, List.map_cons, List.map_nil, hs, hx, hr]
  exact hK _ _ (h v' w' h2 h3 h4 h5)
theorem set_heap {w : World} {g j : Nat} {cur : Array Value} {T : TypeId} {u : Value} (h : w.heap[g]? = some (.cells cur T (0, 0))) (b : Nat) : (w.setCell ⟨g, j, none⟩ u).heap[b]? = if g = b then some (.cells (cur.setIfInBounds j u) T (0, 0)) else w.heap[b]? := by
  simp only [World.setCell, Array.getElem?_modify]
  by_cases e : g = b
  · subst e; simp [h]
  · simp [e]
/-- A row's slice has grown, and is stored again. -/
theorem Deep.upd {W w' : World} {lo T U g cap q : Nat} {a b x y : Int} {l : List (List Int)} {v' : Value} {es : List E3} {xs : List Value} {p : Nat → Value} {ys : Nat → List Value} (hTU : U ≠ T) (h : Deep W lo T U (.slice (some ⟨g, 0, none⟩) es.length cap) es xs p ys)
    (hq : es[q]? = some (a, b, l)) (ho : w'.ownsRow lo U 2 v' (l.length + 1) (ys q ++ [.int .i64 x, .int .i64 y])) (hg : W.grownBy w' (p q).ownBlock) (hat : v'.ownBlock = (p q).ownBlock ∨ v'.ownBlock = some W.heap.size) :
    Deep (w'.setCell ⟨g, q * 3 + 2, none⟩ v') lo T U (.slice (some ⟨g, 0, none⟩) es.length cap) (es.set q (a, b, l ++ [[x, y]])) (xs.set (q * 3 + 2) v') (fun i => if i = q then v' else p i) (fun i => if i = q then ys q ++ [.int .i64 x, .int .i64 y] else ys i) := by
  have hqs : q < es.length := (List.getElem?_eq_some_iff.1 hq).1
  have hgW := h.vblk (b := g) rfl
  have hpg : ∀ i, i < es.length → (p i).ownBlock ≠ some g := fun i hi hb => h.pv hTU hi hb rfl
  have hg' : w'.heap[g]? = W.heap[g]? := hg.block g hgW.2 fun e => hpg q hqs e.symm
  have own' := own_move h.own (w' := w') fun b' hb => by cases hb; exact hg'
  obtain ⟨l1, h2⟩ := own'
  rcases h2 with ⟨e, _⟩ | ⟨g1, c1, cur, e, o1, o2, o3, o4, o5, o6⟩
  · cases e
  cases e
  have hs := fun b' => set_heap (u := v') (j := q * 3 + 2) o2 b'
  have hvg : v'.ownBlock ≠ some g := fun hb => by
    obtain ⟨_, _, c, e⟩ := own_blk ho hb
    rw [o2] at e; cases e; exact hTU rfl
  have mv : ∀ {q' : Value} {l' : List (List Int)} {y' : List Value}, RowsAt w' lo U q' l' y' → q'.ownBlock ≠ some g → RowsAt (w'.setCell ⟨g, q * 3 + 2, none⟩ v') lo U q' l' y' := fun hr hne => hr.move fun b' hb => by
    rw [hs, if_neg]; intro e; exact hne (e ▸ hb)
  have hlx := h.len
  refine ⟨⟨by rw [List.length_set, List.length_set]; exact l1, .inr ⟨g, cap, _, by rw [List.length_set], o1, by rw [hs, if_pos rfl], by rw [List.length_set]; exact o3, o4, by simpa using o5, ?_⟩⟩, fun i e he => ?_, fun i e he => ?_, fun i j b' hi hj e1 e2 => ?_⟩
  · rw [List.length_set, Array.toList_setIfInBounds, List.take_set, o6]
  · by_cases hi : i = q
    · subst hi
      rw [List.getElem?_set_self hqs] at he
      cases he
      obtain ⟨c1, c2, c3⟩ := h.cell i _ hq
      refine ⟨?_, ?_, ?_⟩
      · rw [List.getElem?_set_ne (by omega)]; exact c1
      · rw [List.getElem?_set_ne (by omega)]; exact c2
      · rw [List.getElem?_set_self (by omega)]; simp
    · rw [List.getElem?_set_ne (fun e => hi e.symm)] at he
      obtain ⟨c1, c2, c3⟩ := h.cell i _ he
      refine ⟨?_, ?_, ?_⟩
      · rw [List.getElem?_set_ne (by omega)]; exact c1
      · rw [List.getElem?_set_ne (by omega)]; exact c2
      · rw [List.getElem?_set_ne (by omega)]; simp only [hi, if_false]; exact c3
  · by_cases hi : i = q
    · subst hi
      rw [List.getElem?_set_self hqs] at he
      cases he
      simp only [if_true]
      obtain ⟨r1, r2, r3⟩ := h.row i _ hq
      have hyl : (ys i).length = l.length * 2 := r1.1
      refine mv ⟨by rw [List.length_append, List.length_singleton]; exact ho, fun r hr => ?_, fun k j hk hj => ?_⟩ hvg
      · rcases List.mem_append.1 hr with hr | hr
        · exact r2 r hr
        · rw [List.mem_singleton] at hr; subst hr; rfl
      · rw [List.length_append, List.length_singleton] at hk
        by_cases hk' : k < l.length
        · rw [List.getElem?_append_left (by omega), r3 k j hk' hj, List.getD_eq_getElem?_getD (l := l ++ _), List.getElem?_append_left hk', ← List.getD_eq_getElem?_getD]
        · obtain rfl : k = l.length := by omega
          rw [List.getElem?_append_right (by omega), hyl, show l.length * 2 + j - l.length * 2 = j by omega, List.getD_eq_getElem?_getD (l := l ++ _), List.getElem?_append_right (Nat.le_refl _), Nat.sub_self]
          match j, hj with
          | 0, _ => rfl
          | 1, _ => rfl
    · rw [List.getElem?_set_ne (fun e => hi e.symm)] at he
      have hil : i < es.length := (List.getElem?_eq_some_iff.1 he).1
      simp only [hi, if_false]
      exact mv ((h.row i _ he).move fun b' hb => hg.block b' (h.pblk hil hb).2 fun e => hi (h.inj i q b' hil hqs hb e.symm)) (hpg i hil)
  · rw [List.length_set] at hi hj
    by_cases hi' : i = q <;> by_cases hj' : j = q <;> simp only [hi', hj', if_true, if_false] at e1 e2
    · omega
    · rcases hat with ha | ha
      · rw [ha] at e1
        exact absurd (h.inj q j b' hqs hj e1 e2) (fun e => hj' e.symm)
      · rw [ha] at e1; cases e1
        have := (h.pblk hj e2).2; omega
    · rcases hat with ha | ha
      · rw [ha] at e2
        exact absurd (h.inj i q b' hi hqs e1 e2) hi'
      · rw [ha] at e2; cases e2
        have := (h.pblk hi e1).2; omega
    · exact h.inj i j b' hi hj e1 e2
theorem upd_rest {w W w' : World} {lo T U g cap q B : Nat} {M0 : Nat → Prop} {code : List Int} {i h : Int} {e e' : E3} {v' : Value} {es : List E3} {xs : List Value} {p : Nat → Value} {ys : Nat → List Value} (hTU : U ≠ T) (hlo : lo = w.heap.size) (hD : Deep W lo T U (.slice (some ⟨g, 0, none⟩) es.length cap) es xs p ys)
    (hq : es[q]? = some e) (hg : W.grownBy w' (p q).ownBlock) (hat : v'.ownBlock = (p q).ownBlock ∨ v'.ownBlock = some W.heap.size) (hF : Fx B w W) (hB : B < w.heap.size) (hX : Bx cx W B (MineX M0 (.slice (some ⟨g, 0, none⟩) es.length cap) es p) code i h) :
    Fx B w (w'.setCell ⟨g, q * 3 + 2, none⟩ v') ∧ Bx cx (w'.setCell ⟨g, q * 3 + 2, none⟩ v') B (MineX M0 (.slice (some ⟨g, 0, none⟩) es.length cap) (es.set q e') (fun i => if i = q then v' else p i)) code i h := by
  subst hlo
  have hqs : q < es.length := (List.getElem?_eq_some_iff.1 hq).1
  have hgW := hD.vblk (b := g) rfl
  have hg' : w'.heap[g]? = W.heap[g]? := hg.block g hgW.2 fun e => hD.pv hTU hqs e.symm rfl
  obtain ⟨_, _, cur, e1⟩ := own_blk hD.own (b := g) rfl
  have hs := fun b' => set_heap (u := v') (j := q * 3 + 2) (hg'.trans e1) b'
  have sz : (w'.setCell ⟨g, q * 3 + 2, none⟩ v').heap.size = w'.heap.size := by simp [World.setCell]
  have hB' : w'.heap[B]? = W.heap[B]? := hg.block B (Nat.lt_of_lt_of_le hB hF.size) fun e => by have := (hD.pblk hqs e.symm).1; omega
  refine ⟨⟨hg.os.trans hF.os, hg.tape.trans hF.tape, hg.output.trans hF.output, by rw [sz]; exact Nat.le_trans hF.size hg.size, fun b b1 b2 => ?_⟩, hX.go ?_ (by rw [sz]; exact hg.size) (fun b b1 b2 b3 => ?_) (fun b hb => ?_)⟩
  · rw [hs, if_neg (by omega)]
    exact (hg.block b (Nat.lt_of_lt_of_le b1 hF.size) fun e => by have := (hD.pblk hqs e.symm).1; omega).trans (hF.block b b1 b2)
  · rw [hs, if_neg (by omega)]; exact hB'
  · have hgb : g ≠ b := fun e => b3 (.inr (.inl (by subst e; rfl)))
    rw [hs, if_neg hgb]
    exact hg.block b b1 fun e => b3 (.inr (.inr ⟨q, hqs, e.symm⟩))
  · rcases hb with hb | hb | ⟨k, hk, hb⟩
    · exact .inl (.inl hb)
    · exact .inl (.inr (.inl hb))
    · rw [List.length_set] at hk
      by_cases e : k = q
      · simp only [e, if_true] at hb
        rcases hat with ha | ha
        · exact .inl (.inr (.inr ⟨q, hqs, ha ▸ hb⟩))
        · rw [ha] at hb; cases hb; exact .inr (Nat.le_refl _)
      · simp only [e, if_false] at hb
        exact .inl (.inr (.inr ⟨k, hk, hb⟩))
def anyR (rows : List (List C)) (q : Int) : List (List C) := std.rset rows q 2 (.s (std.ofv (std.vapp (std.rsv 2 rows q 2) [[8, 0]])))
theorem rsv_row {es : List E3} {q : Nat} {a b : Int} {l : List (List Int)} (hq : es[q]? = some (a, b, l)) (hw : ∀ r ∈ l, r.length = 2) : std.rsv 2 (es.map toRow) (q : Int) 2 = l := by
  have e : (es.map toRow).getD q [] = toRow (a, b, l) := by rw [List.getD_eq_getElem?_getD, List.getElem?_map, hq]; rfl
  show (asRows (cOf (es.map toRow) ((q : Int)).toNat 2)).map (fun r => (List.range 2).map fun j => asInt (cAt r j)) = l
  rw [Int.toNat_natCast]
  unfold cOf
  rw [e]
  show ((l.map (·.map C.i)).map fun r => (List.range 2).map fun j => asInt (cAt r j)) = l
  rw [List.map_map]
  refine (List.map_congr_left fun r hr => ?_).trans (List.map_id l)
  match r, hw r hr with
  | [x, y], _ => rfl
theorem anyR_eq {es : List E3} {q : Nat} {a b : Int} {l : List (List Int)} (hq : es[q]? = some (a, b, l)) (hw : ∀ r ∈ l, r.length = 2) : (es.set q (a, b, l ++ [[8, 0]])).map toRow = anyR (es.map toRow) (q : Int) := by
  have e : (es.map toRow).getD q [] = toRow (a, b, l) := by rw [List.getD_eq_getElem?_getD, List.getElem?_map, hq]; rfl
  unfold anyR
  rw [rsv_row hq hw]
  show _ = (es.map toRow).set ((q : Int)).toNat (((es.map toRow).getD ((q : Int)).toNat []).set 2 _)
  rw [Int.toNat_natCast, e, List.map_set]
  rfl
theorem Deep.own_low {w : World} {lo T U : Nat} {v : Value} {es : List E3} {xs : List Value} {p : Nat → Value} {ys : Nat → List Value} (h : Deep w lo T U v es xs p ys) : w.ownsRow 0 T 3 v es.length xs := by
  refine ⟨h.own.1, ?_⟩
  rcases h.own.2 with h | ⟨g, c, cur, rfl, h1, h2⟩
  · exact .inl h
  · exact .inr ⟨g, c, cur, rfl, Nat.zero_le _, h2⟩
end
end PM
