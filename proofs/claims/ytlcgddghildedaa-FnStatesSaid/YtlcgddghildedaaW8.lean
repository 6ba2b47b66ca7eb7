/- Models of the functions, or plain laws about them; each theorem states its own conditions. -/
import Derived.Test.YtlcgddghildedaaQFs
import Derived.Test.YtlcgddghildedaaDq
import Derived.Test.YtlcgddghildedaaProg
import Derived.ProofKit
import Derived.WalkKit
import Derived.Below
import Derived.KernelRfl
set_option linter.unusedVariables false
set_option linter.unusedSimpArgs false
open Go Go.Proofs Go.RowKit PM
namespace X
set_option maxRecDepth 100000
set_option maxHeartbeats 4000000
theorem Bx_weak {w : World} {B : Nat} {mine mine' : Nat → Prop} {code : List Int} {i h : Int} (hb : Bx cx w B mine code i h) (hm : ∀ b, mine' b → mine b) : Bx cx w B mine' code i h :=
  hb.go rfl (Nat.le_refl _) (fun _ _ _ _ => rfl) fun b h => .inl (hm b h)
theorem own_form {w : World} {base e size n : Nat} {v : Value} {xs : List Value} (h : w.ownsRow base e size v n xs) : ∃ b c, v = .slice b n c := by
  rcases h.2 with ⟨rfl, rfl⟩ | ⟨g, c, cur, rfl, _⟩
  · exact ⟨none, 0, rfl⟩
  · exact ⟨_, c, rfl⟩
theorem below_c {code : List Int} {i h : Int} (n : Int) {w : World} {B : Nat} {mine : Nat → Prop} (ha : At code i) (hB : Bx cx w B mine code i h) (hm : ∀ b, mine b → b < w.heap.size) :
    ∃ x i' h', (0 < n → 0 ≤ x ∧ x < n) ∧ At code i' ∧ (∀ k, spec_l1Below std code i h n k = k x code i' h') ∧
      Calls Try.prog 96 #[.pointer (some ⟨B, 0, none⟩), .int .i64 n] w fun e w' => e = .returned (.int .i64 x) ∧ Fx B w w' ∧ Bx cx w' B mine code i' h' := by
  obtain ⟨x, i', h', p, a, k⟩ := Below_dr code i h n ha
  refine ⟨x, i', h', p.2, a, k, (box_calls spec_l1Below_b (i' := i') (h' := h') (d0 := .int .i64 x) (ds := [.int .i64 n]) (vs := [.int .i64 n]) (fun q => ?_) hB hm ⟨rfl, trivial⟩).mono fun e w' hq => ?_⟩
  · unfold spec_l1Below_w
    exact k _
  · obtain ⟨vv, bs, okf, he, ho, _, hf, hb⟩ := hq
    obtain ⟨rfl, rfl⟩ := own_int ho
    exact ⟨he, hf, Bx_weak hb fun b h => .inl h⟩
theorem once_c {code : List Int} {i h : Int} (n : Int) {w : World} {B : Nat} {mine : Nat → Prop} (ha : At code i) (hB : Bx cx w B mine code i h) (hm : ∀ b, mine b → b < w.heap.size) :
    ∃ x i' h', At code i' ∧ (∀ k, spec_l1Once std code i h n k = k x code i' h') ∧
      Calls Try.prog 94 #[.pointer (some ⟨B, 0, none⟩), .int .i64 n] w fun e w' => e = .returned (.bool x) ∧ Fx B w w' ∧ Bx cx w' B mine code i' h' := by
  obtain ⟨x, i', h', _, a, k⟩ := Once_dr code i h n ha
  refine ⟨x, i', h', a, k, (box_calls spec_l1Once_b (i' := i') (h' := h') (d0 := .bool x) (ds := [.int .i64 n]) (vs := [.int .i64 n]) (fun q => ?_) hB hm ⟨rfl, trivial⟩).mono fun e w' hq => ?_⟩
  · unfold spec_l1Once_w
    exact k _
  · obtain ⟨vv, bs, okf, he, ho, _, hf, hb⟩ := hq
    obtain ⟨rfl, rfl⟩ := own_bool ho
    exact ⟨he, hf, Bx_weak hb fun b h => .inl h⟩
theorem rows_c {code : List Int} {i h : Int} (lo : Nat) {w : World} {B : Nat} {mine : Nat → Prop} (hlo : lo ≤ w.heap.size) (ha : At code i) (hB : Bx cx w B mine code i h) (hm : ∀ b, mine b → b < w.heap.size) :
    ∃ l i' h', SmallR 1000 l ∧ At code i' ∧ (∀ k, spec_l8Rows std code i h 4 k = k l code i' h') ∧
      Calls Try.prog 243 #[.pointer (some ⟨B, 0, none⟩), .int .i64 4] w fun e w' => ∃ ba ca ys, e = .returned (.slice ba l.length ca) ∧ Fx B w w' ∧ RowsAt w' lo 161 (.slice ba l.length ca) l ys ∧ (∀ b, (Value.slice ba l.length ca).ownBlock = some b → w.heap.size ≤ b) ∧ Bx cx w' B (fun b => mine b ∨ (Value.slice ba l.length ca).ownBlock = some b) code i' h' := by
  obtain ⟨l, i', h', hs, a, k⟩ := Rows8_dr code i h 4 ha (by omega)
  refine ⟨l, i', h', hs, a, k, (box_calls spec_l8Rows_b (i' := i') (h' := h') (d0 := .arr (.vecs 161 2 l)) (ds := [.int .i64 4]) (vs := [.int .i64 4]) (fun q => ?_) hB hm ⟨rfl, trivial⟩).mono fun e w' hq => ?_⟩
  · unfold spec_l8Rows_w
    exact k _
  · obtain ⟨vv, bs, okf, he, ho, hbs, hf, hb⟩ := hq
    obtain ⟨e1, ys, hr⟩ := own_rows (lo := lo) ho fun b hb => Nat.le_trans hlo (hbs b hb).1
    obtain ⟨ba, ca, rfl⟩ := own_form hr.1
    refine ⟨ba, ca, ys, he, hf, hr, fun b hb => (hbs b (by rw [e1, hb]; simp)).1, Bx_weak hb fun b h => ?_⟩
    rcases h with h | h
    · exact .inl h
    · exact .inr (by rw [e1, h]; simp)
/-- The loop's steps, in the model. -/
theorem Hist_l (code : List Int) : ∀ (m N : Nat) (at_ i h : Int) (es : List E3), m < N → At code i → es.length + m ≤ 5 → (∀ e ∈ es, SmallR 1000 e.2.2) → 0 ≤ at_ → at_ + 3 * m ≤ 1000000 →
    ∃ (es' : List E3) (i' h' : Int), es'.length ≤ 5 ∧ (∀ e ∈ es', SmallR 1000 e.2.2) ∧ At code i' ∧ ∀ kx, spec_l11Hist_l0 std (spec_l1Below std) (spec_l1Once std) (spec_l8Rows std) N at_ m code i h (es.map toRow) kx = kx code i' h' (es'.map toRow) := by
  intro m
  induction m with
  | zero =>
    intro N at_ i h es hN ha hl hs _ _
    obtain ⟨N, rfl⟩ : ∃ M, N = M + 1 := ⟨N - 1, by omega⟩
    have e : std.lt 0 ((0 : Nat) : Int) = false := rfl
    exact ⟨es, i, h, by omega, hs, ha, fun kx => by simp only [spec_l11Hist_l0, e, bf]⟩
  | succ m ih =>
    intro N at_ i h es hN ha hl hs ht1 ht2
    obtain ⟨N, rfl⟩ : ∃ M, N = M + 1 := ⟨N - 1, by omega⟩
    have e : std.lt 0 ((m + 1 : Nat) : Int) = true := by rw [std_lt]; exact decide_eq_true (by omega)
    obtain ⟨x1, i1, h1, p1, a1, k1⟩ := Below_pos code i h 3 ha (by omega)
    obtain ⟨x2, i2, h2, p2, a2, k2⟩ := Below_pos code i1 h1 4 a1 (by omega)
    obtain ⟨l, i3, h3, s3, a3, k3⟩ := Rows8_dr code i2 h2 4 a2 (by omega)
    obtain ⟨c, i4, h4, -, a4, k4⟩ := Once_dr code i3 h3 3 a3
    have w0 : std.add .i64 at_ 1 = at_ + 1 := by rw [std_add]; exact i64_wrap (by omega) (by omega)
    have w1 : std.add .i64 (at_ + 1) x1 = at_ + 1 + x1 := by rw [std_add]; exact i64_wrap (by omega) (by omega)
    have w2 : std.add .i64 1 x2 = 1 + x2 := by rw [std_add]; exact i64_wrap (by omega) (by omega)
    have el : ∀ es : List E3, (es.map toRow).length = es.length := fun es => by simp
    cases c
    · obtain ⟨es', i', h', q1, q2, q3, q4⟩ := ih N (at_ + 1 + x1) i4 h4 (es ++ [(at_ + 1 + x1, 1 + x2, l)]) (by omega) a4 (by simp; omega) (by
        intro e he
        rcases List.mem_append.1 he with he | he
        · exact hs e he
        · rw [List.mem_singleton] at he; subst he; exact s3) (by omega) (by omega)
      have er : std.room (std.rlen (es.map toRow)) (std.rlen [[C.i (at_ + 1 + x1), .i (1 + x2), .s (std.ofv l)]]) = true := by
        rw [std_rlen, std_rlen, el]; exact room_s (a := es.length) (b := 1) (by omega)
      have ea : std.rapp (es.map toRow) [[C.i (at_ + 1 + x1), .i (1 + x2), .s (std.ofv l)]] = (es ++ [(at_ + 1 + x1, 1 + x2, l)]).map toRow := by rw [List.map_append]; rfl
      exact ⟨es', i', h', q1, q2, q3, fun kx => by simp only [spec_l11Hist_l0, e, bt, k1, k2, k3, k4, bf, w0, w1, w2, er, ea, sub1 (i := m) (by omega), q4]⟩
    · obtain ⟨es', i', h', q1, q2, q3, q4⟩ := ih N (at_ + 1 + x1) i4 h4 ((at_ + 1 + x1, 1 + x2, l) :: es) (by omega) a4 (by simp; omega) (by
        intro e he
        rcases List.mem_cons.1 he with he | he
        · subst he; exact s3
        · exact hs e he) (by omega) (by omega)
      have er : std.room (std.rlen [[C.i (at_ + 1 + x1), .i (1 + x2), .s (std.ofv l)]]) (std.rlen (es.map toRow)) = true := by
        rw [std_rlen, std_rlen, el]; exact room_s (a := 1) (b := es.length) (by omega)
      have ea : std.rapp [[C.i (at_ + 1 + x1), .i (1 + x2), .s (std.ofv l)]] (es.map toRow) = ((at_ + 1 + x1, 1 + x2, l) :: es).map toRow := rfl
      exact ⟨es', i', h', q1, q2, q3, fun kx => by simp only [spec_l11Hist_l0, e, bt, k1, k2, k3, k4, w0, w1, w2, er, ea, sub1 (i := m) (by omega), q4]⟩
theorem Mine_lt {w w0 : World} {B lo T U : Nat} {v : Value} {es : List E3} {xs : List Value} {p : Nat → Value} {ys : Nat → List Value} {M0 : Nat → Prop} (h : Deep w lo T U v es xs p ys) (h0 : ∀ b, M0 b → b < w0.heap.size) (hf : Fx B w0 w) : ∀ b, MineX M0 v es p b → b < w.heap.size := by
  rintro b (hb | hb | ⟨i, hi, hb⟩)
  · exact Nat.lt_of_lt_of_le (h0 b hb) hf.size
  · exact (h.vblk hb).2
  · exact (h.pblk hi hb).2
theorem Fx_alloc {B : Nat} {w : World} (ob : Obj) : Fx B w (w.alloc ob) := by
  have h : Below w.heap.size w (w.alloc ob) := (Below.refl _ w).alloc (Nat.le_refl _) _
  exact ⟨h.os, h.tape, h.output, h.size, fun b hb _ => h.block b hb⟩
/-- One step of the model. -/
theorem Hist_step {code : List Int} {N m : Nat} {t ci ch x1 i1 h1 x2 i2 h2 i3 h3 i4 h4 : Int} {l : List (List Int)} {x4 : Bool} {es : List E3} (ht : 0 ≤ t ∧ t ≤ 1000000) (hx1 : 0 ≤ x1 ∧ x1 < 3) (hx2 : 0 ≤ x2 ∧ x2 < 4) (hm : m ≤ 5) (hl : es.length ≤ 5)
    (k1 : ∀ k, spec_l1Below std code ci ch 3 k = k x1 code i1 h1) (k2 : ∀ k, spec_l1Below std code i1 h1 4 k = k x2 code i2 h2) (k3 : ∀ k, spec_l8Rows std code i2 h2 4 k = k l code i3 h3) (k4 : ∀ k, spec_l1Once std code i3 h3 3 k = k x4 code i4 h4) (kx : List Int → Int → Int → List (List C) → R) :
    spec_l11Hist_l0 std (spec_l1Below std) (spec_l1Once std) (spec_l8Rows std) (N + 1) t ((m + 1 : Nat) : Int) code ci ch (es.map toRow) kx =
    spec_l11Hist_l0 std (spec_l1Below std) (spec_l1Once std) (spec_l8Rows std) N (t + 1 + x1) m code i4 h4 ((bif x4 then [(t + 1 + x1, 1 + x2, l)] ++ es else es ++ [(t + 1 + x1, 1 + x2, l)]).map toRow) kx := by
  have e : std.lt 0 ((m + 1 : Nat) : Int) = true := by rw [std_lt]; exact decide_eq_true (by omega)
  have w0 : std.add .i64 t 1 = t + 1 := by rw [std_add]; exact i64_wrap (by omega) (by omega)
  have w1 : std.add .i64 (t + 1) x1 = t + 1 + x1 := by rw [std_add]; exact i64_wrap (by omega) (by omega)
  have w2 : std.add .i64 1 x2 = 1 + x2 := by rw [std_add]; exact i64_wrap (by omega) (by omega)
  have el : ∀ es : List E3, (es.map toRow).length = es.length := fun es => by simp
  cases x4
  · have er : std.room (std.rlen (es.map toRow)) (std.rlen [[C.i (t + 1 + x1), .i (1 + x2), .s (std.ofv l)]]) = true := by
      rw [std_rlen, std_rlen, el]; exact room_s (a := es.length) (b := 1) (by omega)
    have ea : std.rapp (es.map toRow) [[C.i (t + 1 + x1), .i (1 + x2), .s (std.ofv l)]] = (es ++ [(t + 1 + x1, 1 + x2, l)]).map toRow := by rw [List.map_append]; rfl
    simp only [spec_l11Hist_l0, e, bt, k1, k2, k3, k4, bf, w0, w1, w2, er, ea, sub1 (i := m) (by omega)]
  · have er : std.room (std.rlen [[C.i (t + 1 + x1), .i (1 + x2), .s (std.ofv l)]]) (std.rlen (es.map toRow)) = true := by
      rw [std_rlen, std_rlen, el]; exact room_s (a := 1) (b := es.length) (by omega)
    have ea : std.rapp [[C.i (t + 1 + x1), .i (1 + x2), .s (std.ofv l)]] (es.map toRow) = ([(t + 1 + x1, 1 + x2, l)] ++ es).map toRow := rfl
    simp only [spec_l11Hist_l0, e, bt, k1, k2, k3, k4, w0, w1, w2, er, ea, sub1 (i := m) (by omega)]
theorem Hist_end {code : List Int} {N : Nat} {t ci ch : Int} {rows : List (List C)} (kx : List Int → Int → Int → List (List C) → R) :
    spec_l11Hist_l0 std (spec_l1Below std) (spec_l1Once std) (spec_l8Rows std) (N + 1) t ((0 : Nat) : Int) code ci ch rows kx = kx code ci ch rows := by
  have e : std.lt 0 ((0 : Nat) : Int) = false := rfl
  simp only [spec_l11Hist_l0, e, bf]
theorem infoW : (Try.prog.info? 33).map (fun i => (i.zero, i.size, i.bytes)) = some (some (.agg #[.int .i64 0, .int .i64 0, .slice none 0 0]), 3, 40) := by kernel_rfl
theorem aside {p : Prop} (h : p) : Aside p := h
theorem mine_up {M : Nat → Prop} {w w' : World} {B : Nat} (h : ∀ b, M b → b < w.heap.size) (f : Fx B w w') : ∀ b, M b → b < w'.heap.size := fun b hb => Nat.lt_of_lt_of_le (h b hb) f.size
def Rel (M0 : Nat → Prop) (code : List Int) (B : Nat) (w : World) (rows : List (List C)) (i' h' : Int) (out at_ n : Value) (wr : World) : Prop :=
  ∃ (N m g cap : Nat) (t ci ch : Int) (es : List E3) (xs : List Value) (p : Nat → Value) (ys : Nat → List Value), out = .slice (some ⟨g, 0, none⟩) es.length cap ∧ n = .int .i64 m ∧ at_ = .int .i64 t ∧ m < N ∧ es.length + m ≤ 5 ∧ 0 ≤ t ∧ t ≤ 3 * es.length ∧ At code ci ∧ (∀ e ∈ es, SmallR 1000 e.2.2) ∧
    (∀ kx, spec_l11Hist_l0 std (spec_l1Below std) (spec_l1Once std) (spec_l8Rows std) N t m code ci ch (es.map toRow) kx = kx code i' h' rows) ∧ Fx B w wr ∧ Deep wr w.heap.size 33 161 out es xs p ys ∧ Bx cx wr B (MineX M0 out es p) code ci ch
/-- What is known when the new row has been laid. -/
theorem prep {M0 : Nat → Prop} {code : List Int} {B : Nat} {w wr w2 w3 W4 w5 : World} {u q : Value} {es : List E3} {xs y : List Value} {p : Nat → Value} {ys : Nat → List Value} {l : List (List Int)} {a b i4 h4 : Int} (hBs : B < w.heap.size) (FR : Fx B w wr)
    (DR : Deep wr w.heap.size 33 161 u es xs p ys) (F2 : Fx B wr w2) (F3 : Fx B wr w3) (R3 : RowsAt w3 w.heap.size 161 q l y) (P3 : ∀ b, q.ownBlock = some b → w2.heap.size ≤ b)
    (eW4 : W4 = w3.alloc (Obj.cells #[Value.int IntKind.i64 a, Value.int IntKind.i64 b, q] 33)) (F5 : Fx B W4 w5) (X5 : Bx cx w5 B (fun b => MineX M0 u es p b ∨ q.ownBlock = some b) code i4 h4) :
    w5.heap[w3.heap.size]? = some (Obj.cells #[Value.int IntKind.i64 a, Value.int IntKind.i64 b, q] 33 (0, 0)) ∧
    Deep (w5.alloc (Obj.cells #[Value.int IntKind.i64 a, Value.int IntKind.i64 b, q] 33)) w.heap.size 33 161 u es xs p ys ∧
    Deep (w5.alloc (Obj.cells #[Value.int IntKind.i64 a, Value.int IntKind.i64 b, q] 33)) w.heap.size 33 161 (.slice (some ⟨w5.heap.size, 0, none⟩) 1 1) [(a, b, l)] [.int .i64 a, .int .i64 b, q] (fun _ => q) (fun _ => y) ∧
    (∀ i b, i < es.length → (p i).ownBlock = some b → q.ownBlock ≠ some b) ∧
    Bx cx (w5.alloc (Obj.cells #[Value.int IntKind.i64 a, Value.int IntKind.i64 b, q] 33)) B (fun b => (MineX M0 u es p b ∨ q.ownBlock = some b) ∨ b = w5.heap.size) code i4 h4 ∧
    Fx B w (w5.alloc (Obj.cells #[Value.int IntKind.i64 a, Value.int IntKind.i64 b, q] 33)) := by
  have s3 : w.heap.size ≤ w3.heap.size := Nat.le_trans FR.size F3.size
  have F4 : Fx B w3 W4 := by rw [eW4]; exact Fx_alloc _
  have H4 : W4.heap[w3.heap.size]? = some (Obj.cells #[Value.int IntKind.i64 a, Value.int IntKind.i64 b, q] 33 (0, 0)) := by rw [eW4]; exact heap_alloc_new w3 _
  have S4 : w3.heap.size < W4.heap.size := by rw [eW4]; simp
  have H5 := (F5.block _ S4 (by omega)).trans H4
  have F35 := F4.trans F5
  have F6 : Fx B w5 (w5.alloc (Obj.cells #[Value.int IntKind.i64 a, Value.int IntKind.i64 b, q] 33)) := Fx_alloc _
  have Fr6 := (F3.trans F35).trans F6
  have R6 : RowsAt (w5.alloc (Obj.cells #[Value.int IntKind.i64 a, Value.int IntKind.i64 b, q] 33)) w.heap.size 161 q l y := R3.move fun b' hb => by
    have := own_blk R3.1 hb
    exact (F35.trans F6).block b' this.2.1 (by omega)
  refine ⟨H5, DR.move fun b' b1 b2 => Fr6.block b' b2 (by omega), Deep.one (heap_alloc_new w5 _) (Nat.le_trans s3 F35.size) R6, fun i b' hi hb hb' => ?_, X5.go (heap_alloc_old w5 _ (Nat.lt_of_lt_of_le hBs (Nat.le_trans s3 F35.size))) F6.size (fun b' b1 b2 _ => F6.block b' b1 b2) (fun b' hb => ?_), FR.trans Fr6⟩
  · have h1 := (DR.pblk hi hb).2
    have h2 := P3 b' hb'
    have h3 := F2.size
    omega
  · rcases hb with hb | hb
    · exact .inl hb
    · exact .inr (by omega)
theorem news_at {w : World} {lo T U g n c : Nat} {es : List E3} {xs : List Value} {p : Nat → Value} {ys : Nat → List Value} (h : Deep w lo T U (.slice (some ⟨g, 0, none⟩) n c) es xs p ys) : ∀ (j : Nat) (u : Value), xs[j]? = some u → w.cell? ((⟨g, 0, none⟩ : Addr).add j) = some u := by
  intro j u hu
  have := (h.cells rfl).2.2.2 j u hu
  rw [Addr.add_lit, Nat.zero_add]
  exact this
theorem round_end {M0 : Nat → Prop} {code : List Int} {B N m : Nat} {w W w' : World} {rows : List (List C)} {i' h' t ci ch x1 i1 h1 x2 i2 h2 i3 h3 i4 h4 : Int} {x4 : Bool} {l : List (List Int)} {M : Nat → Prop} {v1 v2 v' : Value} {es es1 es2 : List E3} {xs1 xs2 : List Value} {p1 p2 : Nat → Value} {ys1 ys2 : Nat → List Value}
    (hes : es1 ++ es2 = bif x4 then [(t + 1 + x1, 1 + x2, l)] ++ es else es ++ [(t + 1 + x1, 1 + x2, l)]) (hl5 : es.length + m ≤ 5) (hm : 0 < m) (hN : m < N) (ht0 : 0 ≤ t) (ht : t ≤ 3 * es.length) (hx1 : 0 ≤ x1 ∧ x1 < 3) (hx2 : 0 ≤ x2 ∧ x2 < 4)
    (hsm : ∀ e ∈ es, SmallR 1000 e.2.2) (hs : SmallR 1000 l) (a4 : At code i4)
    (hlp : ∀ kx, spec_l11Hist_l0 std (spec_l1Below std) (spec_l1Once std) (spec_l8Rows std) N t m code ci ch (es.map toRow) kx = kx code i' h' rows)
    (k1 : ∀ k, spec_l1Below std code ci ch 3 k = k x1 code i1 h1) (k2 : ∀ k, spec_l1Below std code i1 h1 4 k = k x2 code i2 h2) (k3 : ∀ k, spec_l8Rows std code i2 h2 4 k = k l code i3 h3) (k4 : ∀ k, spec_l1Once std code i3 h3 3 k = k x4 code i4 h4)
    (D1 : Deep W w.heap.size 33 161 v1 es1 xs1 p1 ys1) (D2 : Deep W w.heap.size 33 161 v2 es2 xs2 p2 ys2) (hd : ∀ i j b, i < es1.length → j < es2.length → (p1 i).ownBlock = some b → (p2 j).ownBlock ≠ some b)
    (ho : w'.ownsRow w.heap.size 33 3 v' (es1.length + es2.length) (xs1 ++ xs2)) (hg : W.grownBy w' v1.ownBlock) (hnn : v' ≠ .slice none 0 0) (hat : v'.ownBlock = v1.ownBlock ∨ v'.ownBlock = some W.heap.size)
    (hX : Bx cx W B M code i4 h4) (hF : Fx B w W) (hBs : B < w.heap.size) (m0 : ∀ b, M0 b → M b) (m1 : ∀ b, v1.ownBlock = some b → M b) (m2 : ∀ i b, i < es1.length → (p1 i).ownBlock = some b → M b) (m3 : ∀ i b, i < es2.length → (p2 i).ownBlock = some b → M b) :
    Rel M0 code B w rows i' h' v' (.int .i64 (t + 1 + x1)) (.int .i64 ((m - 1 : Nat) : Int)) w' := by
  obtain ⟨p, ys, D, X, F⟩ := app_step (by decide) rfl D1 D2 hd ho hg hat hX hF hBs m0 m1 m2 m3
  have hlen : (es1 ++ es2).length = es.length + 1 := by rw [hes]; cases x4 <;> simp <;> omega
  obtain ⟨g, c, rfl⟩ := own_some D.own hnn
  obtain ⟨N, rfl⟩ : ∃ q, N = q + 1 := ⟨N - 1, by omega⟩
  obtain ⟨m, rfl⟩ : ∃ q, m = q + 1 := ⟨m - 1, by omega⟩
  refine ⟨N, m, g, c, t + 1 + x1, i4, h4, es1 ++ es2, _, p, ys, rfl, rfl, rfl, by omega, by omega, by omega, by omega, a4, fun e he => ?_, fun kx => ?_, F, D, X⟩
  · rw [hes] at he
    have : e = (t + 1 + x1, 1 + x2, l) ∨ e ∈ es := by
      cases x4
      · rcases List.mem_append.1 he with he | he
        · exact .inr he
        · exact .inl (List.mem_singleton.1 he)
      · rcases List.mem_append.1 he with he | he
        · exact .inl (List.mem_singleton.1 he)
        · exact .inr he
    rcases this with rfl | h
    · exact hs
    · exact hsm e h
  · have := Hist_step (N := N) (m := m) (es := es) ⟨ht0, by omega⟩ hx1 hx2 (by omega) (by omega) k1 k2 k3 k4 kx
    rw [hlp kx, ← hes] at this
    exact this.symm
theorem hist_c {M0 : Nat → Prop} {code : List Int} {i h : Int} {w : World} {B : Nat} (ha : At code i) (hB : Bx cx w B M0 code i h) (hBs : B < w.heap.size) (hM0 : ∀ b, M0 b → b < w.heap.size) :
    ∃ rows i' h', At code i' ∧ (∀ k, spec_l11Hist std code i h k = k rows code i' h') ∧
      Calls Try.prog 191 #[.pointer (some ⟨B, 0, none⟩)] w fun e w' => ∃ es v xs p ys, rows = es.map toRow ∧ es.length ≤ 5 ∧ (∀ e ∈ es, SmallR 1000 e.2.2) ∧ e = .returned v ∧ Fx B w w' ∧ Deep w' w.heap.size 33 161 v es xs p ys ∧
        Bx cx w' B (MineX M0 v es p) code i' h' := by
  obtain ⟨W0, eW0⟩ : ∃ X, X = w.alloc (Obj.cells #[] 33) := ⟨_, rfl⟩
  have hW0 : Below w.heap.size w W0 := by rw [eW0]; exact (Below.refl _ w).alloc (Nat.le_refl _) _
  have F0 : Fx B w W0 := by rw [eW0]; exact Fx_alloc _
  have D0 : Deep W0 w.heap.size 33 161 (.slice (some ⟨w.heap.size, 0, none⟩) 0 0) [] [] (fun _ => undef) (fun _ => []) := by
    refine ⟨⟨rfl, .inr ⟨w.heap.size, 0, #[], rfl, Nat.le_refl _, by rw [eW0]; exact heap_alloc_new w _, Nat.le_refl _, by decide, rfl, rfl⟩⟩, fun i e he => ?_, fun i e he => ?_, fun i j b hi => ?_⟩
    · simp at he
    · simp at he
    · simp at hi
  have X0 : Bx cx W0 B (MineX M0 (.slice (some ⟨w.heap.size, 0, none⟩) 0 0) [] (fun _ => undef)) code i h := hB.go (hW0.block B hBs) F0.size (fun b h1 h2 _ => F0.block b h1 h2) (by
    rintro b (hb | hb | ⟨i, hi, _⟩)
    · exact .inl hb
    · cases hb; exact .inr (Nat.le_refl _)
    · simp at hi)
  obtain ⟨x, i1, h1, p1, a1, k1, c1⟩ := below_c 6 ha X0 (Mine_lt D0 hM0 F0)
  have p1 := p1 (by omega)
  obtain ⟨es', i', h', _, _, a', hl⟩ := Hist_l code x.toNat std.fuel 0 i1 h1 [] (by rw [std_fuel]; omega) a1 (by simp; omega) (fun _ h => by cases h) (by omega) (by omega)
  rw [show ((x.toNat : Nat) : Int) = x by omega] at hl
  refine ⟨es'.map toRow, i', h', a', fun k => ?_, ?_⟩
  · unfold spec_l11Hist spec_l11Hist_f
    rw [k1]
    exact hl _
  generalize es'.map toRow = rows at hl
  have R0 : ∀ w1, Fx B W0 w1 → Bx cx w1 B (MineX M0 (.slice (some ⟨w.heap.size, 0, none⟩) 0 0) [] (fun _ => undef)) code i1 h1 → Rel M0 code B w rows i' h' (.slice (some ⟨w.heap.size, 0, none⟩) 0 0) (.int .i64 0) (.int .i64 x) w1 := by
    intro w1 f1 b1
    refine ⟨std.fuel, x.toNat, w.heap.size, 0, 0, i1, h1, [], [], fun _ => undef, fun _ => [], rfl, by rw [show ((x.toNat : Nat) : Int) = x by omega], rfl, by rw [std_fuel]; omega, by simp; omega, by omega, by simp, a1, (fun _ h => by cases h), fun kx => ?_, F0.trans f1, D0.move fun b hb hb2 => f1.block b hb2 (by omega), b1⟩
    rw [show ((x.toNat : Nat) : Int) = x by omega]
    exact hl kx
  have EW0 : Aside (W0 = w.alloc (Obj.cells #[] 33)) := eW0
  have F0 : Aside (Fx B w W0) := F0
  clear eW0 D0 X0 hl k1
  go_enter Try.func191, Try.ntmps191
  go_wp2_with (first
    | (go_at_call 96; rw [← EW0.out]; refine c1.mono fun e w1 hq => ?_; obtain ⟨rfl, F1, X1⟩ := hq; have R1 := R0 w1 F1 X1; clear F1 X1 R0 c1)
    )
  go_loopw [3, 4, 5] (fun out at_ n wr => Rel M0 code B w rows i' h' out at_ n wr) (fun _ _ n _ => (RowKit.intOf n).toNat)
  case atStart => exact R1
  obtain ⟨i0, hi0, hz0, hz1, hz2⟩ := info_parts infoW
  case round =>
    obtain ⟨N, m, g, cap, t, ci, ch, es, xs, p, ys, rfl, rfl, rfl, hN, hl5, ht0, ht, hac, hsm, hlp, FR, DR, XR⟩ := hrel
    have FR : Aside (Fx B w wr) := FR
    have DR : Aside (Deep wr w.heap.size 33 161 (.slice (some ⟨g, 0, none⟩) es.length cap) es xs p ys) := DR
    have hlp : Aside (∀ kx, spec_l11Hist_l0 std (spec_l1Below std) (spec_l1Once std) (spec_l8Rows std) N t m code ci ch (es.map toRow) kx = kx code i' h' rows) := hlp
    obtain ⟨x1, i1, h1, p1, a1, k1, c1⟩ := below_c 3 hac XR (Mine_lt DR.out hM0 FR.out)
    have p1 := p1 (by omega)
    have k1 : Aside (∀ k, spec_l1Below std code ci ch 3 k = k x1 code i1 h1) := k1
    have XR : Aside (Bx cx wr B (MineX M0 (.slice (some ⟨g, 0, none⟩) es.length cap) es p) code ci ch) := XR
    go_wp2_with (first
      | (go_at_call 96; refine c1.mono fun e w1 hq => ?_; obtain ⟨rfl, F1, X1⟩ := hq; obtain ⟨x2, i2, h2, p2, a2, k2, c2⟩ := below_c 4 a1 X1 (mine_up (Mine_lt DR.out hM0 FR.out) F1); have p2 := p2 (by omega); have F1 : Aside (Fx B wr w1) := F1; have k2 : Aside (∀ k, spec_l1Below std code i1 h1 4 k = k x2 code i2 h2) := k2; clear X1 c1)
      | (go_at_call 96; refine c2.mono fun e w2 hq => ?_; obtain ⟨rfl, F2, X2⟩ := hq; have F2 := F1.out.trans F2; obtain ⟨l, i3, h3, s3, a3, k3, c3⟩ := rows_c w.heap.size (Nat.le_trans FR.out.size F2.size) a2 X2 (mine_up (Mine_lt DR.out hM0 FR.out) F2); have F2 : Aside (Fx B wr w2) := F2; have k3 : Aside (∀ k, spec_l8Rows std code i2 h2 4 k = k l code i3 h3) := k3; clear X2 c2)
      | (go_at_call 243; refine c3.mono fun e w3 hq => ?_; obtain ⟨ba, ca, y, rfl, F3, R3, P3, X3⟩ := hq; have F3 : Aside (Fx B wr w3) := F2.out.trans F3; have R3 : Aside (RowsAt w3 w.heap.size 161 (.slice ba l.length ca) l y) := R3; have P3 : Aside (∀ b, (Value.slice ba l.length ca).ownBlock = some b → w2.heap.size ≤ b) := P3; have X3 : Aside (Bx cx w3 B (fun b => MineX M0 (.slice (some ⟨g, 0, none⟩) es.length cap) es p b ∨ (Value.slice ba l.length ca).ownBlock = some b) code i3 h3) := X3; have hs3 : w.heap.size ≤ w3.heap.size := Nat.le_trans FR.out.size F3.out.size; obtain ⟨W4, eW4⟩ : ∃ X, X = w3.alloc (Obj.cells #[Value.int IntKind.i64 (t + 1 + x1), Value.int IntKind.i64 (1 + x2), Value.slice ba l.length ca] 33) := ⟨_, rfl⟩; have F4 : Fx B w3 W4 := (by rw [eW4]; exact Fx_alloc _); have X4 : Bx cx W4 B (fun b => MineX M0 (.slice (some ⟨g, 0, none⟩) es.length cap) es p b ∨ (Value.slice ba l.length ca).ownBlock = some b) code i3 h3 := X3.out.go (by (rw [eW4]; exact heap_alloc_old w3 _ (Nat.lt_of_lt_of_le hBs hs3))) F4.size (fun b b1 b2 _ => F4.block b b1 b2) (fun b hb => .inl hb); have M4 : ∀ b, (MineX M0 (.slice (some ⟨g, 0, none⟩) es.length cap) es p b ∨ (Value.slice ba l.length ca).ownBlock = some b) → b < W4.heap.size := (fun b hb => hb.elim (fun hb => mine_up (Mine_lt DR.out hM0 FR.out) (F3.out.trans F4) b hb) (fun hb => Nat.lt_of_lt_of_le (own_blk R3.out.1 hb).2.1 F4.size)); obtain ⟨x4, i4, h4, a4, k4, c4⟩ := once_c 3 a3 X4 M4; have H4 : Aside (W4.heap[w3.heap.size]? = some (Obj.cells #[Value.int IntKind.i64 (t + 1 + x1), Value.int IntKind.i64 (1 + x2), Value.slice ba l.length ca] 33 (0, 0))) := (by rw [eW4]; exact heap_alloc_new w3 _); have S4 : Aside (w3.heap.size < W4.heap.size) := (show w3.heap.size < W4.heap.size by (rw [eW4]; simp)); have F4 : Aside (Fx B w3 W4) := F4; have EW4 : Aside (W4 = w3.alloc (Obj.cells #[Value.int IntKind.i64 (t + 1 + x1), Value.int IntKind.i64 (1 + x2), Value.slice ba l.length ca] 33)) := eW4; have hs3 : Aside (w.heap.size ≤ w3.heap.size) := hs3; have k4 : Aside (∀ k, spec_l1Once std code i3 h3 3 k = k x4 code i4 h4) := k4; clear c3 eW4 X4 M4)
      | (go_at_call 94; rw [← EW4.out]; refine c4.mono fun e w5 hq => ?_; obtain ⟨rfl, F5, X5⟩ := hq; obtain ⟨H5, D6, D1, Q6, X6, F6⟩ := prep hBs FR.out DR.out F2.out F3.out R3.out P3.out EW4.out F5 X5; have c50 : w5.cell? ⟨w3.heap.size, 0, none⟩ = some (.int .i64 (t + 1 + x1)) := (by simp [World.cell?, H5]); have c51 : w5.cell? ⟨w3.heap.size, 1, none⟩ = some (.int .i64 (1 + x2)) := (by simp [World.cell?, H5]); have c52 : w5.cell? ⟨w3.heap.size, 2, none⟩ = some (.slice ba l.length ca) := (by simp [World.cell?, H5]); replace D6 := aside D6; replace D1 := aside D1; replace Q6 := aside Q6; replace X6 := aside X6; replace F6 := aside F6; replace k4 := aside k4; clear c4 H5 X5 F5)
      | (at_builtin; refine wpList_append_at rfl (.tmp 29) (.tmp 30) 25 rfl w.heap.size 33 i0 (.agg #[.int .i64 0, .int .i64 0, .slice none 0 0]) 3 40 Try.underlying25 hi0 hz0 hz1 hz2 rfl (by decide) D1.out.own rfl rfl D6.out.len (news_at D6.out) D6.out.oneCell (by unfold maxLen; simp only [List.length_singleton]; omega) (by simp only [List.length_singleton]; omega) F6.out.size ?_; intro v' w7 o7 g7 n7 a7)
      | (at_builtin; refine wpList_append_at rfl (.tmp 32) (.tmp 34) 25 rfl w.heap.size 33 i0 (.agg #[.int .i64 0, .int .i64 0, .slice none 0 0]) 3 40 Try.underlying25 hi0 hz0 hz1 hz2 rfl (by decide) D6.out.own rfl rfl D1.out.len (news_at D1.out) D1.out.oneCell (by unfold maxLen; omega) (by omega) F6.out.size ?_; intro v' w7 o7 g7 n7 a7)
      )
    · have hx : x4 = true := by assumption
      have hm : 0 < m := by omega
      go_roundw
      case rel =>
        rw [show ((m : Int) - 1) = ((m - 1 : Nat) : Int) by omega]
        exact round_end (x4 := x4) (es1 := [(t + 1 + x1, 1 + x2, l)]) (es2 := es) (by rw [hx]; rfl) hl5 hm hN ht0 ht p1 p2 hsm s3 a4 hlp.out k1.out k2.out k3.out k4.out D1.out D6.out (fun i j b hi hj hb hb' => Q6.out j b hj hb' hb) o7 g7 (fun e => by have := (n7.1 e).1; cases this) a7 X6.out F6.out hBs (fun b hb => .inl (.inl (.inl hb)))
          (fun b hb => by cases hb; exact .inr rfl) (fun i b _ hb => .inl (.inr hb)) (fun i b hi hb => .inl (.inl (.inr (.inr ⟨i, hi, hb⟩))))
      case measure => simp [RowKit.intOf]; omega
    · have hx : x4 = false := by assumption
      have hm : 0 < m := by omega
      go_roundw
      case rel =>
        rw [show ((m : Int) - 1) = ((m - 1 : Nat) : Int) by omega]
        exact round_end (x4 := x4) (es1 := es) (es2 := [(t + 1 + x1, 1 + x2, l)]) (by rw [hx]; rfl) hl5 hm hN ht0 ht p1 p2 hsm s3 a4 hlp.out k1.out k2.out k3.out k4.out D6.out D1.out (fun i j b hi hj hb => Q6.out i b hi hb) o7 g7 (fun e => by have := (n7.1 e).1; cases this) a7 X6.out F6.out hBs (fun b hb => .inl (.inl (.inl hb)))
          (fun b hb => .inl (.inl (.inr (.inl hb)))) (fun i b hi hb => .inl (.inl (.inr (.inr ⟨i, hi, hb⟩)))) (fun i b _ hb => .inl (.inr hb))
      case measure => simp [RowKit.intOf]; omega
    · have hm : m = 0 := by omega
      subst hm
      obtain ⟨N, rfl⟩ : ∃ q, N = q + 1 := ⟨N - 1, by omega⟩
      have hf := hlp.out fun _ i h r => some (.tup [.int .i64 i, .int .i64 h, .arr (.rows 33 r)])
      rw [Hist_end] at hf
      simp only [Option.some.injEq, V.tup.injEq, List.cons.injEq, V.int.injEq, V.arr.injEq, Arr.rows.injEq, true_and, and_true] at hf
      obtain ⟨rfl, rfl, rfl⟩ := hf
      go_ret
      exact ⟨es, _, xs, p, ys, rfl, by omega, hsm, rfl, FR.out, DR.out, XR.out⟩
end X
