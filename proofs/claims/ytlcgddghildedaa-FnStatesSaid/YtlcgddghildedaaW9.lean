/- Models of the functions, or plain laws about them; each theorem states its own conditions. -/
import Derived.Test.YtlcgddghildedaaW8
set_option linter.unusedVariables false
set_option linter.unusedSimpArgs false
open Go Go.Proofs Go.RowKit PM
namespace X
set_option maxRecDepth 100000
set_option maxHeartbeats 4000000
theorem k_inj {f : (Int → List Int → Int → Int → R) → R} {code : List Int} {x y i i' h h' : Int} (h1 : ∀ k, f k = k x code i h) (h2 : ∀ k, f k = k y code i' h') : x = y ∧ i = i' ∧ h = h' := by
  have := (h1 fun a _ b c => some (.tup [.int .i64 a, .int .i64 b, .int .i64 c])).symm.trans (h2 _)
  simpa using this
theorem hist_k {M0 : Nat → Prop} {code : List Int} {i h i' h' : Int} {rows : List (List C)} {w : World} {B : Nat} (ha : At code i) (hB : Bx cx w B M0 code i h) (hBs : B < w.heap.size) (hM0 : ∀ b, M0 b → b < w.heap.size) (kH : ∀ k, spec_l11Hist std code i h k = k rows code i' h') :
    Calls Try.prog 191 #[.pointer (some ⟨B, 0, none⟩)] w fun e w' => ∃ es v xs p ys, rows = es.map toRow ∧ es.length ≤ 5 ∧ (∀ e ∈ es, SmallR 1000 e.2.2) ∧ e = .returned v ∧ Fx B w w' ∧ Deep w' w.heap.size 33 161 v es xs p ys ∧
        Bx cx w' B (MineX M0 v es p) code i' h' := by
  obtain ⟨rows2, i2, h2, _, k2, hc⟩ := hist_c ha hB hBs hM0
  have := (kH fun r _ b c => some (.tup [.arr (.rows 33 r), .int .i64 b, .int .i64 c])).symm.trans (k2 _)
  simp only [Option.some.injEq, V.tup.injEq, List.cons.injEq, V.int.injEq, V.arr.injEq, Arr.rows.injEq, true_and, and_true] at this
  obtain ⟨rfl, rfl, rfl⟩ := this
  exact hc
theorem below_k {code : List Int} {i h n x i' h' : Int} {w : World} {B : Nat} {mine : Nat → Prop} (hB : Bx cx w B mine code i h) (hm : ∀ b, mine b → b < w.heap.size) (hk : ∀ k, spec_l1Below std code i h n k = k x code i' h') :
    Calls Try.prog 96 #[.pointer (some ⟨B, 0, none⟩), .int .i64 n] w fun e w' => e = .returned (.int .i64 x) ∧ Fx B w w' ∧ Bx cx w' B mine code i' h' := by
  refine (box_calls spec_l1Below_b (i' := i') (h' := h') (d0 := .int .i64 x) (ds := [.int .i64 n]) (vs := [.int .i64 n]) (fun q => ?_) hB hm ⟨rfl, trivial⟩).mono fun e w' hq => ?_
  · unfold spec_l1Below_w
    exact hk _
  · obtain ⟨vv, bs, okf, he, ho, _, hf, hb⟩ := hq
    obtain ⟨rfl, rfl⟩ := own_int ho
    exact ⟨he, hf, Bx_weak hb fun b h => .inl h⟩
theorem infoR : (Try.prog.info? 161).map (fun i => (i.zero, i.size, i.bytes)) = some (some (.agg #[.int .i64 0, .int .i64 0]), 2, 16) := by kernel_rfl
theorem lay2 (w : World) (T : TypeId) (a b : Value) : ∀ (j : Nat) (u : Value), [a, b][j]? = some u → (w.alloc (Obj.cells #[a, b] T)).cell? ((⟨w.heap.size, 0, none⟩ : Addr).add j) = some u := by
  intro j u hu
  have h := heap_alloc_new w (Obj.cells #[a, b] T)
  rw [Addr.add_lit, Nat.zero_add]
  simp only [World.cell?, h]
  match j, hu with
  | 0, hu => simpa using hu
  | 1, hu => simpa using hu
theorem upd_cell {W w' : World} {lo T U g cap q : Nat} {e : E3} {es : List E3} {xs : List Value} {p : Nat → Value} {ys : Nat → List Value} (hTU : U ≠ T) (h : Deep W lo T U (.slice (some ⟨g, 0, none⟩) es.length cap) es xs p ys)
    (hq : es[q]? = some e) (hg : W.grownBy w' (p q).ownBlock) : w'.cell? ⟨g, q * 3 + 2, none⟩ = some (p q) ∧ w'.frozen? ⟨g, q * 3 + 2, none⟩ = false := by
  have hqs : q < es.length := (List.getElem?_eq_some_iff.1 hq).1
  have hgW := h.vblk (b := g) rfl
  have hg' : w'.heap[g]? = W.heap[g]? := hg.block g hgW.2 fun e => h.pv hTU hqs e.symm rfl
  obtain ⟨_, _, cur, e1⟩ := own_blk h.own (b := g) rfl
  refine ⟨(World.cell?_of_block (a := ⟨g, q * 3 + 2, none⟩) hg').trans ((h.cells rfl).2.2.2 _ _ (h.cell q _ hq).2.2), ?_⟩
  simp [World.frozen?, hg', e1]
theorem any_c {M0 : Nat → Prop} {code : List Int} {i h i1 h1 i2 h2 i3 h3 : Int} {rows : List (List C)} {q : Nat} {w : World} {B : Nat} (ha : At code i) (hB : Bx cx w B M0 code i h) (hBs : B < w.heap.size) (hM0 : ∀ b, M0 b → b < w.heap.size)
    (kH : ∀ k, spec_l11Hist std code i h k = k rows code i1 h1) (hqr : q < rows.length) (k1 : ∀ k, spec_l1Below std code i1 h1 (rows.length : Int) k = k (q : Int) code i2 h2) (k2 : ∀ k, spec_l1Below std code i2 h2 20 k = k 3 code i3 h3) :
    Calls Try.prog 95 #[.pointer (some ⟨B, 0, none⟩)] w fun e w' => ∃ es v xs p ys, es.map toRow = anyR rows (q : Int) ∧ e = .returned v ∧ Fx B w w' ∧ Deep w' w.heap.size 33 161 v es xs p ys ∧
        Bx cx w' B (MineX M0 v es p) code i3 h3 := by
  have cH := hist_k ha hB hBs hM0 kH
  obtain ⟨i0, hi0, hz0, hz1, hz2⟩ := info_parts infoR
  replace k1 := aside k1
  replace k2 := aside k2
  clear kH
  go_enter Try.func95, Try.ntmps95
  go_wp2_with (first
    | (go_at_call 191; refine cH.mono fun e w1 hq => ?_; obtain ⟨es, v, xs, p, ys, rfl, hl5, hsm, rfl, F1, D1, X1⟩ := hq; rw [List.length_map] at hqr; obtain ⟨g, cap, rfl⟩ := own_some D1.own (fun e => by (have := D1.own; rw [e] at this; rcases this.2 with ⟨_, hn⟩ | ⟨_, _, _, e', _⟩; omega; cases e')); have cA := below_k (n := (es.length : Int)) (w := w1) X1 (Mine_lt D1 hM0 F1) (by have := k1.out; rw [List.length_map] at this; exact this); replace F1 := aside F1; replace D1 := aside D1; replace X1 := aside X1)
    | (go_at_call 96; refine cA.mono fun e w2 hq => ?_; obtain ⟨rfl, F2, X2⟩ := hq; have cB := below_k (w := w2) X2 (mine_up (Mine_lt D1.out hM0 F1.out) F2) k2.out; clear cA; replace F2 := aside F2; clear X2)
    | (go_at_call 96; refine cB.mono fun e w3 hq => ?_; obtain ⟨rfl, F3, X3⟩ := hq; clear cB; have F3 := aside (F2.out.trans F3); replace X3 := aside X3; have D3 := aside (D1.out.move fun b b1 b2 => F3.out.block b b2 (by omega)); have eq := List.getElem?_eq_getElem hqr; obtain ⟨bq, cq, hpq⟩ := own_form (D3.out.row q _ eq).1; have cc : w3.cell? ⟨g, q * 3 + 2, none⟩ = some (.slice bq es[q].2.2.length cq) := (by rw [← hpq]; exact (D3.out.cells rfl).2.2.2 _ _ (D3.out.cell q _ eq).2.2); have R4 := (D3.out.row q _ eq).move (w' := w3.alloc (Obj.cells #[Value.int IntKind.i64 8, Value.int IntKind.i64 0] 161)) (fun b hb => heap_alloc_old w3 _ (D3.out.pblk hqr hb).2); rw [hpq] at R4; have S4 : es[q].2.2.length ≤ 1000 := (hsm _ (List.getElem_mem hqr)).1; have N4 : ∀ (j : Nat) (u : Value), [Value.int IntKind.i64 8, Value.int IntKind.i64 0][j]? = some u → (w3.alloc (Obj.cells #[Value.int IntKind.i64 8, Value.int IntKind.i64 0] 161)).cell? ((⟨w3.heap.size, 0, none⟩ : Addr).add j) = some u := lay2 w3 161 _ _; have L4 : w.heap.size ≤ (w3.alloc (Obj.cells #[Value.int IntKind.i64 8, Value.int IntKind.i64 0] 161)).heap.size := (F3.out.size |> fun h => Nat.le_trans (Nat.le_trans F1.out.size h) (Fx_alloc (B := B) (w := w3) _).size); replace hpq := aside hpq; replace eq := aside eq; replace R4 := aside R4; replace N4 := aside N4; replace L4 := aside L4)
    | (at_builtin; refine wpList_append_at rfl (.tmp 47) (.tmp 49) 31 rfl w.heap.size 161 i0 (.agg #[.int .i64 0, .int .i64 0]) 2 16 Try.underlying31 hi0 hz0 hz1 hz2 rfl (by decide) R4.out.1 rfl (m := 1) (news := [Value.int IntKind.i64 8, Value.int IntKind.i64 0]) rfl rfl N4.out (by intro u hu; simp at hu; rcases hu with rfl | rfl <;> rfl) (by unfold maxLen; omega) (by omega) L4.out ?_; intro v' w5 o5 g5 n5 a5; have D4 := D3.out.move (w' := w3.alloc (Obj.cells #[Value.int IntKind.i64 8, Value.int IntKind.i64 0] 161)) (fun b _ hb => heap_alloc_old w3 _ hb); rw [← hpq.out] at g5 a5; obtain ⟨c5, f5⟩ := upd_cell (by decide) D4 eq.out g5; rw [hpq.out] at c5; obtain ⟨b', c', rfl⟩ := own_form o5; replace D4 := aside D4; replace o5 := aside o5; replace g5 := aside g5; replace a5 := aside a5; clear n5 cc)
    )
  go_ret
  have eq' : es[q]? = some (es[q].1, es[q].2.1, es[q].2.2) := eq.out
  have F4 := (F1.out.trans F3.out).trans (Fx_alloc (B := B) (w := w3) (Obj.cells #[Value.int IntKind.i64 8, Value.int IntKind.i64 0] 161))
  have X4 := X3.out.go (w' := w3.alloc (Obj.cells #[Value.int IntKind.i64 8, Value.int IntKind.i64 0] 161)) (heap_alloc_old w3 _ (Nat.lt_of_lt_of_le hBs (Nat.le_trans F1.out.size F3.out.size))) (Fx_alloc (B := B) (w := w3) _).size (fun b b1 _ _ => heap_alloc_old w3 _ b1) (fun b hb => .inl hb)
  obtain ⟨F5, X5⟩ := upd_rest (e' := (es[q].1, es[q].2.1, es[q].2.2 ++ [[8, 0]])) (by decide) rfl D4.out eq' g5.out a5.out F4 hBs X4
  have D5 := Deep.upd (by decide) D4.out eq' o5.out g5.out a5.out
  exact ⟨_, _, _, _, _, anyR_eq eq' (hsm _ (List.getElem_mem hqr)).2, rfl, F5, D5, X5⟩
end X
