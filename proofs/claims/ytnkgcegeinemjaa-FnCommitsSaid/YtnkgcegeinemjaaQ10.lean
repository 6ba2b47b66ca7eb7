/- Models of the functions, or plain laws about them; each theorem states its own conditions. -/
import Derived.Test.YtnkgcegeinemjaaQ9
set_option linter.unusedVariables false
set_option linter.unusedSimpArgs false
open Go.Proofs
namespace X
open PM Go

/-! ## Locks -/
theorem copyM_val (c : Int) (l : List (List Int)) (h : l.length ≤ 2147483648) (k : Int → List (List Int) → R) : spec_l3Copy std c l k = k c l ∧ impl_copyMem std c l k = k c l := by
  simp only [spec_l3Copy, spec_l3Copy_f, impl_copyMem, impl_copyMem_f, room0v h, cond_true, vapp0, and_self]
theorem vlen_vset (l : List (List Int)) (i : Int) (j : Nat) (x : Int) : std.vlen (std.vset l i j x) = std.vlen l := by
  rw [std_vlen, std_vlen, std_vset, List.length_set]
theorem mem_inb {c : Int} {l : List (List Int)} (h : memOk c l = true) {i : Int} (hi : cellB i = true) : std.inb i (std.vlen l) = true := by
  have h8 := (memOk_spec h).1
  have hc : 0 ≤ i ∧ i ≤ 7 := of_decide_eq_true hi
  rw [std_vlen, std_inb]
  exact decide_eq_true (by omega)
def lockB (c : Int) (l : List (List Int)) (i who : Int) : Bool := memOk c l && (cellB i && (inB who 1 99 && (fld l i.toNat 2 == 0)))
theorem Lock_val (c : Int) (l : List (List Int)) (i who : Int) (hb : l.length ≤ 2147483648) (k : Int → List (List Int) → Bool → R) :
    spec_Lock std c l i who k = k c (bif lockB c l i who then std.vset l i 2 who else l) (lockB c l i who) ∧ impl_Lock std c l i who k = k c (bif lockB c l i who then std.vset l i 2 who else l) (lockB c l i who) := by
  unfold spec_Lock spec_Lock_f impl_Lock impl_Lock_f lockB
  simp only [(copyM_val c l hb _).1, (copyM_val c l hb _).2, (MemOk_val c l hb _).1, (MemOk_val c l hb _).2, cell_val, cell_val', in_val, owner_val, bif_not]
  cases hm : memOk c l
  · exact ⟨rfl, rfl⟩
  · cases hc : cellB i
    · exact ⟨rfl, rfl⟩
    · simp only [mem_inb hm hc, cond_true, vget_at, std_eq]
      cases inB who 1 99 <;> cases (fld l i.toNat 2 == 0) <;> exact ⟨rfl, rfl⟩
def tickB (c : Int) (l : List (List Int)) : Bool := memOk c l && !(c == 1000000)
theorem Tick_val (c : Int) (l : List (List Int)) (hb : l.length ≤ 2147483648) (k : Int → List (List Int) → Int → R) :
    spec_Tick std c l k = k (bif tickB c l then c + 1 else c) l (bif tickB c l then c + 1 else 0) ∧ impl_Tick std c l k = k (bif tickB c l then c + 1 else c) l (bif tickB c l then c + 1 else 0) := by
  unfold spec_Tick spec_Tick_f impl_Tick impl_Tick_f tickB
  simp only [(copyM_val c l hb _).1, (copyM_val c l hb _).2, (MemOk_val c l hb _).1, (MemOk_val c l hb _).2, bif_not]
  cases hm : memOk c l
  · exact ⟨rfl, rfl⟩
  · have hc := (memOk_spec hm).2.1
    have w : std.add .i64 c 1 = c + 1 := by rw [std_add]; exact i64_wrap (by omega) (by omega)
    have e : std.le 1000000 c = (c == 1000000) := by
      rw [std_le]
      by_cases h : c = 1000000
      · subst h; rfl
      · rw [beq_eq_false_iff_ne.2 h]; exact decide_eq_false (by omega)
    simp only [w, e, std_eq]
    cases (c == 1000000) <;> exact ⟨rfl, rfl⟩
def mineB (c : Int) (l : List (List Int)) (i who : Int) : Bool := memOk c l && (cellB i && (inB who 1 99 && (fld l i.toNat 2 == who)))
theorem Mine_val (c : Int) (l : List (List Int)) (i who : Int) (hb : l.length ≤ 2147483648) (k : Bool → R) : spec_l3Mine std c l i who k = k (mineB c l i who) := by
  unfold spec_l3Mine spec_l3Mine_f mineB
  simp only [(MemOk_val c l hb _).1, cell_val, in_val]
  cases hm : memOk c l
  · rfl
  · cases hc : cellB i
    · rfl
    · simp only [mem_inb hm hc, cond_true, vget_at, std_eq]
      cases inB who 1 99 <;> rfl
theorem mine_inb {c : Int} {l : List (List Int)} {i who : Int} (h : mineB c l i who = true) : std.inb i (std.vlen l) = true := by
  unfold mineB at h
  simp only [Bool.and_eq_true] at h
  exact mem_inb h.1 h.2.1
def storeB (c : Int) (l : List (List Int)) (i who v : Int) : Bool := mineB c l i who && valB v
theorem Store_val (c : Int) (l : List (List Int)) (i who v : Int) (hb : l.length ≤ 2147483648) (k : Int → List (List Int) → Bool → R) :
    spec_Store std c l i who v k = k c (bif storeB c l i who v then std.vset l i 0 v else l) (storeB c l i who v) ∧ impl_Store std c l i who v k = k c (bif storeB c l i who v then std.vset l i 0 v else l) (storeB c l i who v) := by
  constructor
  · unfold spec_Store spec_Store_f storeB
    simp only [(copyM_val c l hb _).1, Mine_val c l i who hb, val_val, bif_not]
    cases hm : mineB c l i who
    · rfl
    · simp only [mine_inb hm, cond_true]
      cases valB v <;> rfl
  · unfold impl_Store impl_Store_f storeB mineB
    simp only [(copyM_val c l hb _).2, (MemOk_val c l hb _).2, cell_val', owner_val, val_val', bif_not]
    cases hm : memOk c l
    · rfl
    · cases hc : cellB i
      · rfl
      · simp only [mem_inb hm hc, cond_true, vget_at, std_eq]
        cases inB who 1 99 <;> cases (fld l i.toNat 2 == who) <;> cases valB v <;> rfl
def unlockB (c : Int) (l : List (List Int)) (i who ver : Int) : Bool := mineB c l i who && inB ver (fld l i.toNat 1) c
theorem Unlock_val (c : Int) (l : List (List Int)) (i who ver : Int) (hb : l.length ≤ 2147483648) (k : Int → List (List Int) → Bool → R) :
    spec_Unlock std c l i who ver k = k c (bif unlockB c l i who ver then std.vset (std.vset l i 2 0) i 1 ver else l) (unlockB c l i who ver) ∧ impl_Unlock std c l i who ver k = k c (bif unlockB c l i who ver then std.vset (std.vset l i 2 0) i 1 ver else l) (unlockB c l i who ver) := by
  constructor
  · unfold spec_Unlock spec_Unlock_f unlockB
    simp only [(copyM_val c l hb _).1, Mine_val c l i who hb, in_val, bif_not]
    cases hm : mineB c l i who
    · rfl
    · simp only [vlen_vset, mine_inb hm, cond_true, vget_at]
      cases inB ver (fld l i.toNat 1) c <;> rfl
  · unfold impl_Unlock impl_Unlock_f unlockB mineB
    simp only [(copyM_val c l hb _).2, (MemOk_val c l hb _).2, cell_val', owner_val, in_val', bif_not]
    cases hm : memOk c l
    · rfl
    · cases hc : cellB i
      · rfl
      · simp only [vlen_vset, mem_inb hm hc, cond_true, vget_at, std_eq]
        cases inB who 1 99 <;> cases (fld l i.toNat 2 == who) <;> cases inB ver (fld l i.toNat 1) c <;> rfl

/-! ## CommitStep -/
def Cm.on (c : Cm) (ph : Int) : Cm := { c with ph := (bif (bif (ph == 3) && ((c.reads.length : Int) == 0) then 4 else ph) == 4 && ((c.puts.length : Int) == 0) then 6 else bif (ph == 3) && ((c.reads.length : Int) == 0) then 4 else ph), pos := 0 }
def Cm.next (c : Cm) (len : Int) (ph : Int) : Cm := bif c.pos + 1 == len then c.on ph else { c with pos := c.pos + 1 }
def Cm.ok (c : Cm) : Bool := commitOk c.who c.rv c.ph c.pos c.wv c.puts c.reads
def Cm.cell (c : Cm) : Int := fld c.puts c.pos.toNat 0
def commitStep (cl : Int) (l : List (List Int)) (c : Cm) : Int × List (List Int) × Cm :=
  bif memOk cl l && c.ok then
    bif c.ph == 1 then (bif lockB cl l c.cell c.who then (cl, std.vset l c.cell 2 c.who, c.next c.puts.length 2) else (cl, l, c.back c.pos))
    else bif c.ph == 2 then (bif cl == 1000000 then (cl, l, c.back c.puts.length) else (cl + 1, l, { c with wv := cl + 1 }.on 3))
    else bif c.ph == 3 then (bif (!(fld l (nth0 c.reads c.pos.toNat).toNat 2 == 0) && !(fld l (nth0 c.reads c.pos.toNat).toNat 2 == c.who)) || decide (c.rv < fld l (nth0 c.reads c.pos.toNat).toNat 1) then (cl, l, c.back c.puts.length) else (cl, l, c.next c.reads.length 4))
    else bif c.ph == 4 then (cl, bif storeB cl l c.cell c.who (fld c.puts c.pos.toNat 1) then std.vset l c.cell 0 (fld c.puts c.pos.toNat 1) else l, c.next c.puts.length 5)
    else bif c.ph == 5 then (cl, bif unlockB cl l c.cell c.who c.wv then std.vset (std.vset l c.cell 2 0) c.cell 1 c.wv else l, c.next c.puts.length 6)
    else bif c.ph == 7 then (cl, bif unlockB cl l c.cell c.who (fld l c.cell.toNat 1) then std.vset (std.vset l c.cell 2 0) c.cell 1 (fld l c.cell.toNat 1) else l, c.back c.pos)
    else (cl, l, c)
  else (cl, l, c)
theorem iget_at (l : List Int) (c : Int) : std.iget l c = nth0 l c.toNat := rfl
theorem wrap1 {t : Int} (h : 0 ≤ t ∧ t ≤ 4194304) : std.add .i64 t 1 = t + 1 := by rw [std_add]; exact i64_wrap (by omega) (by omega)
theorem wrapm {t : Int} (h : 0 ≤ t ∧ t ≤ 4194304) : std.sub .i64 t 1 = t - 1 := by rw [std_sub]; exact i64_wrap (by omega) (by omega)
theorem inb_of {t : Int} {n : Nat} (h : 0 ≤ t ∧ t < n) : std.inb t (n : Int) = true := by rw [std_inb]; exact decide_eq_true h
theorem rising_cell {l : List Int} (h : risingB l = true) {i : Nat} (hi : i < l.length) : cellB (nth0 l i) = true := by
  have := (allB_iff.1 h) i hi
  unfold riseOk at this
  rw [Bool.and_eq_true] at this
  exact this.1
theorem rows_cell {l : List (List Int)} (h : rowsOk l = true) {i : Nat} (hi : i < l.length) : cellB (fld l i 0) = true := decide_eq_true ((rowsOk_spec h).2 i hi).1
theorem CommitStep_val (cl : Int) (l : List (List Int)) (c : Cm) (hl : l.length ≤ 1048576) (hs : c.small) (k : Int → List (List Int) → Int → Int → Int → Int → Int → List (List Int) → List Int → R) :
    spec_CommitStep std cl l c.who c.rv c.ph c.pos c.wv c.puts c.reads k = (commitStep cl l c).2.2.k (k (commitStep cl l c).1 (commitStep cl l c).2.1) ∧
    impl_CommitStep std cl l c.who c.rv c.ph c.pos c.wv c.puts c.reads k = (commitStep cl l c).2.2.k (k (commitStep cl l c).1 (commitStep cl l c).2.1) := by
  obtain ⟨who, rv, p, t, wv, pl, rd⟩ := c
  obtain ⟨h1, h2, h3⟩ := hs
  simp only at h1 h2 h3 ⊢
  have hb : l.length ≤ 2147483648 := by omega
  unfold spec_CommitStep spec_CommitStep_f impl_CommitStep impl_CommitStep_f commitStep Cm.ok
  simp only [(copyM_val cl l hb _).1, (copyM_val cl l hb _).2, (copyC_val _ _ _ _ _ pl rd (by omega) (by omega) _).1, (copyC_val _ _ _ _ _ pl rd (by omega) (by omega) _).2, (MemOk_val cl l hb _).1, (MemOk_val cl l hb _).2,
    (CommitOk_val _ _ _ _ _ pl rd (by omega) (by omega) _).1, (CommitOk_val _ _ _ _ _ pl rd (by omega) (by omega) _).2, bif_not]
  cases hm : memOk cl l
  · exact ⟨rfl, rfl⟩
  · cases hok : commitOk who rv p t wv pl rd
    · exact ⟨rfl, rfl⟩
    · obtain ⟨_, _, _, h4, h5, h6, _, h8⟩ := commitOk_spec hok
      have hp := phaseLen_le p pl rd
      have w1 := wrap1 (t := t) (by omega)
      have w2 := wrapm (t := t) (by omega)
      have w3 := wrapm (t := (pl.length : Int)) (by omega)
      have cases8 : p = 1 ∨ p = 2 ∨ p = 3 ∨ p = 4 ∨ p = 5 ∨ p = 6 ∨ p = 7 ∨ p = 8 := by omega
      rcases cases8 with rfl | rfl | rfl | rfl | rfl | rfl | rfl | rfl
      · have hlen : phaseLen 1 pl rd = pl.length := rfl
        have ht : 0 ≤ t ∧ t < pl.length := by omega
        have hx := inb_of ht
        simp only [std_eq, Int.reduceBEq, cond_true, cond_false, std_vlen, hx, vget_at, (Lock_val cl l _ who hb _).1, (Lock_val cl l _ who hb _).2, (Len_val _ _ _ _ _ _ _ _).2, hlen, w1, w2, Bool.and_self, Cm.cell, Cm.next, Cm.on, Cm.back, Bool.false_and]
        cases lockB cl l (fld pl t.toNat 0) who
        · simp only [not_false', cond_true, cond_false, l10Back_t, std_eq, w2]
          cases (t == 0) <;> exact ⟨rfl, rfl⟩
        · simp only [not_true', cond_true, cond_false]
          cases (t + 1 == (pl.length : Int)) <;> exact ⟨rfl, rfl⟩
      · have hcl := (memOk_spec hm).2.1
        simp only [std_eq, Int.reduceBEq, cond_true, cond_false, std_vlen, std_ilen, (Tick_val cl l hb _).1, (Tick_val cl l hb _).2, w3, Bool.and_self, Bool.true_and, Cm.on, Cm.back, l10Back_t, tickB, hm]
        by_cases e : cl = 1000000
        · subst e
          simp only [Int.reduceBEq, Bool.not_true, cond_true, cond_false]
          cases ((pl.length : Int) == 0) <;> exact ⟨rfl, rfl⟩
        · have e1 : (cl == 1000000) = false := beq_eq_false_iff_ne.2 e
          have e2 : (cl + 1 == 0) = false := beq_eq_false_iff_ne.2 (by omega)
          simp only [e1, e2, Bool.not_false, cond_true, cond_false]
          cases ((rd.length : Int) == 0) <;> cases ((pl.length : Int) == 0) <;> exact ⟨rfl, rfl⟩
      · have hlen : phaseLen 3 pl rd = rd.length := rfl
        have ht : 0 ≤ t ∧ t < rd.length := by omega
        have hx := inb_of ht
        have hc := mem_inb hm (rising_cell h6 (show t.toNat < rd.length by omega))
        rw [std_vlen] at hc
        simp only [std_eq, Int.reduceBEq, cond_true, cond_false, std_vlen, std_ilen, hx, iget_at, hc, vget_at, (Len_val _ _ _ _ _ _ _ _).2, hlen, w1, w3, Bool.and_self, Cm.next, Cm.on, Cm.back, Bool.false_and, l10Back_t, std_lt, bif_not]
        cases (fld l (nth0 rd t.toNat).toNat 2 == 0) <;> cases (fld l (nth0 rd t.toNat).toNat 2 == who) <;> cases decide (rv < fld l (nth0 rd t.toNat).toNat 1) <;> cases (t + 1 == (rd.length : Int)) <;> cases ((pl.length : Int) == 0) <;> exact ⟨rfl, rfl⟩
      · have hlen : phaseLen 4 pl rd = pl.length := rfl
        have ht : 0 ≤ t ∧ t < pl.length := by omega
        have hx := inb_of ht
        simp only [std_eq, Int.reduceBEq, cond_true, cond_false, std_vlen, hx, vget_at, (Store_val cl l _ who _ hb _).1, (Store_val cl l _ who _ hb _).2, (Len_val _ _ _ _ _ _ _ _).2, hlen, w1, w2, Bool.and_self, Cm.cell, Cm.next, Cm.on, Cm.back, Bool.false_and]
        cases (t + 1 == (pl.length : Int)) <;> exact ⟨rfl, rfl⟩
      · have hlen : phaseLen 5 pl rd = pl.length := rfl
        have ht : 0 ≤ t ∧ t < pl.length := by omega
        have hx := inb_of ht
        simp only [std_eq, Int.reduceBEq, cond_true, cond_false, std_vlen, hx, vget_at, (Unlock_val cl l _ who _ hb _).1, (Unlock_val cl l _ who _ hb _).2, (Len_val _ _ _ _ _ _ _ _).2, hlen, w1, w2, Bool.and_self, Cm.cell, Cm.next, Cm.on, Cm.back, Bool.false_and]
        cases (t + 1 == (pl.length : Int)) <;> exact ⟨rfl, rfl⟩
      · exact ⟨rfl, rfl⟩
      · have hlen : phaseLen 7 pl rd = pl.length := rfl
        have ht : 0 ≤ t ∧ t < pl.length := by omega
        have hx := inb_of ht
        have hc := mem_inb hm (rows_cell h5 (show t.toNat < pl.length by omega))
        rw [std_vlen] at hc
        simp only [std_eq, Int.reduceBEq, cond_true, cond_false, std_vlen, hx, hc, vget_at, (Unlock_val cl l _ who _ hb _).1, (Unlock_val cl l _ who _ hb _).2, w2, Bool.and_self, Cm.cell, Cm.back, Bool.false_and]
        cases (t == 0) <;> exact ⟨rfl, rfl⟩
      · exact ⟨rfl, rfl⟩
theorem markWordS_l (kx : Int → List (List Int) → R) : ∀ (m n i : Nat) (k : Int) (o : List (List Int)), i + m = o.length → m < n → o.length ≤ 2147483648 → (∀ r ∈ o, r.length = 3) → -9223372036854775808 ≤ k → k + 3 * m ≤ 9223372036854775807 →
    laws_markWordS_l0 std n k i o kx = kx (k + 3 * m) (o.take i ++ vups 3 k m)
  | 0, n + 1, i, k, o, h, hn, hb, hw, h1, h2 => by
    unfold laws_markWordS_l0
    have e1 : std.lt (i : Int) (o.length : Int) = false := by rw [lt_nat]; exact decide_eq_false (by omega)
    have e2 : o.take i = o := List.take_of_length_le (by omega)
    simp only [std_vlen, e1, cond_false, e2, vups, List.append_nil]
    congr 1
    omega
  | m + 1, n + 1, i, k, o, h, hn, hb, hw, h1, h2 => by
    unfold laws_markWordS_l0
    have hi : i < o.length := by omega
    have e1 : std.lt (i : Int) (o.length : Int) = true := by rw [lt_nat]; exact decide_eq_true (by omega)
    have e2 : std.inb (i : Int) (o.length : Int) = true := by rw [inb_nat]; exact decide_eq_true (by omega)
    have w1 : IntKind.i64.wrap (k + 1) = k + 1 := i64_wrap (by omega) (by omega)
    have w2 : IntKind.i64.wrap (k + 1 + 1) = k + 1 + 1 := i64_wrap (by omega) (by omega)
    have w3 : IntKind.i64.wrap (k + 1 + 1 + 1) = k + 1 + 1 + 1 := i64_wrap (by omega) (by omega)
    have hset := setrow3 (hw _ (getD_mem (d := []) hi)) k
    have ih := markWordS_l kx m n (i + 1) (k + 1 + 1 + 1) (o.set i (ups k 3)) (by rw [List.length_set]; omega) (by omega) (by rw [List.length_set]; omega) (fun r hr => by
      rcases List.mem_or_eq_of_mem_set hr with hr | hr
      · exact hw r hr
      · rw [hr, ups_length]) (by omega) (by omega)
    rw [take_set_succ _ _ _ hi] at ih
    simp only [std_vlen, std_vset, List.length_set, e1, e2, cond_true, std_add, cast1 i (by omega), w1, w2, w3, Int.toNat_natCast, getD_set_self hi, List.set_set, hset]
    refine ih.trans ?_
    congr 1
    · omega
    · have ek : k + 1 + 1 + 1 = k + ((3 : Nat) : Int) := by omega
      rw [vups, List.append_assoc, ← ek]; rfl
theorem markWordS_k (a : List (List Int)) (k : Int) (hb : a.length ≤ 2147483648) (hw : ∀ r ∈ a, r.length = 3) (h1 : 0 ≤ k) (h2 : k ≤ 4611686018427387904) (kx : Int → List (List Int) → R) : laws_markWordS std a k kx = kx (k + 3 * a.length) (vups 3 k a.length) := by
  unfold laws_markWordS laws_markWordS_f
  generalize hN : std.fuel = N
  have hN : 4294967296 = N := hN
  exact markWordS_l (fun k o => kx k o) a.length N 0 k a (by omega) (by omega) hb hw (by omega) (by omega)
theorem heldWordS_l (kret : Int → R) (kx : Int → R) (a : List (List Int)) (hb : a.length ≤ 2147483648) : ∀ (m n i : Nat) (k : Int), i + m = a.length → m < n → a.drop i = vups 3 k m → -9223372036854775808 ≤ k → k + 3 * m ≤ 9223372036854775807 →
    laws_heldWordS_l0 std n a k i kret kx = kx (k + 3 * m)
  | 0, n + 1, i, k, h, hn, hd, h1, h2 => by
    unfold laws_heldWordS_l0
    have e1 : std.lt (i : Int) (a.length : Int) = false := by rw [lt_nat]; exact decide_eq_false (by omega)
    simp only [std_vlen, e1, cond_false]
    congr 1
    omega
  | m + 1, n + 1, i, k, h, hn, hd, h1, h2 => by
    unfold laws_heldWordS_l0
    rw [drop_cons' a [] i (by omega), vups, List.cons.injEq] at hd
    have e1 : std.lt (i : Int) (a.length : Int) = true := by rw [lt_nat]; exact decide_eq_true (by omega)
    have e2 : std.inb (i : Int) (a.length : Int) = true := by rw [inb_nat]; exact decide_eq_true (by omega)
    have w1 : IntKind.i64.wrap (k + 1) = k + 1 := i64_wrap (by omega) (by omega)
    have w2 : IntKind.i64.wrap (k + 1 + 1) = k + 1 + 1 := i64_wrap (by omega) (by omega)
    have w3 : IntKind.i64.wrap (k + 1 + 1 + 1) = k + 1 + 1 + 1 := i64_wrap (by omega) (by omega)
    have hd0 : (a.getD i []).getD 0 0 = k := by rw [hd.1]; rfl
    have hd1 : (a.getD i []).getD 1 0 = k + 1 := by rw [hd.1]; rfl
    have hd2 : (a.getD i []).getD 2 0 = k + 1 + 1 := by rw [hd.1]; rfl
    have ih := heldWordS_l kret kx a hb m n (i + 1) (k + 1 + 1 + 1) (by omega) (by omega) (by rw [hd.2, show k + 1 + 1 + 1 = k + ((3 : Nat) : Int) by omega]) (by omega) (by omega)
    simp only [std_vlen, e1, e2, cond_true, std_vget, Int.toNat_natCast, std_add, cast1 i (by omega), w1, w2, w3, hd0, hd1, hd2, eq_self, not_true', cond_false]
    refine ih.trans ?_
    congr 1
    omega
theorem heldWordS_k (m : Nat) (k : Int) (hb : m ≤ 2147483648) (h1 : 0 ≤ k) (h2 : k ≤ 4611686018427387904) (kx : Int → R) : laws_heldWordS std (vups 3 k m) k kx = kx (k + 3 * m) := by
  unfold laws_heldWordS laws_heldWordS_f
  generalize hN : std.fuel = N
  have hN : 4294967296 = N := hN
  exact heldWordS_l (fun t => kx t) (fun k => kx k) (vups 3 k m) (by rw [vups_length]; exact hb) m N 0 k (by rw [vups_length]; omega) (by omega) rfl (by omega) (by omega)

theorem mem_set {α : Type} {l : List α} {i : Nat} {x y : α} (h : y ∈ l.set i x) : y ∈ l ∨ (y = x ∧ i < l.length) := by
  by_cases hi : i < l.length
  · rcases List.mem_or_eq_of_mem_set h with h | h
    · exact .inl h
    · exact .inr ⟨h, hi⟩
  · rw [List.set_eq_of_length_le (by omega)] at h
    exact .inl h
theorem vset_wide {n : Nat} {l : List (List Int)} (h : ∀ r ∈ l, r.length = n) (i : Int) (j : Nat) (x : Int) : ∀ r ∈ std.vset l i j x, r.length = n := by
  intro r hr
  rw [std_vset] at hr
  rcases mem_set hr with hr | ⟨rfl, hi⟩
  · exact h r hr
  · rw [List.length_set]
    exact h _ (getD_mem hi)
theorem vset_length (l : List (List Int)) (i : Int) (j : Nat) (x : Int) : (std.vset l i j x).length = l.length := by rw [std_vset, List.length_set]
theorem on_small {c : Cm} (h : c.small) (n : Int) : (c.on n).small := h
theorem next_small {c : Cm} (h : c.small) (n p : Int) : (c.next n p).small := by
  unfold Cm.next
  cases (c.pos + 1 == n) <;> exact h
def GoodM (n : Nat) (l : List (List Int)) : Prop := l.length = n ∧ ∀ r ∈ l, r.length = 3
theorem commitStep_good {cl : Int} {l : List (List Int)} {c : Cm} {n : Nat} (hl : GoodM n l) (hs : c.small) : GoodM n (commitStep cl l c).2.1 ∧ (commitStep cl l c).2.2.small := by
  have v : ∀ (i : Int) (j : Nat) (x : Int) (m : List (List Int)), GoodM n m → GoodM n (std.vset m i j x) := fun i j x m h => ⟨by rw [vset_length]; exact h.1, vset_wide h.2 i j x⟩
  have cnd : ∀ (b : Bool) (m m' : List (List Int)), GoodM n m → GoodM n m' → GoodM n (bif b then m else m') := fun b m m' h h' => by cases b <;> assumption
  unfold commitStep
  cases memOk cl l && c.ok
  · exact ⟨hl, hs⟩
  · simp only [cond_true]
    cases (c.ph == 1)
    · cases (c.ph == 2)
      · cases (c.ph == 3)
        · cases (c.ph == 4)
          · cases (c.ph == 5)
            · cases (c.ph == 7)
              · exact ⟨hl, hs⟩
              · exact ⟨cnd _ _ _ (v _ _ _ _ (v _ _ _ _ hl)) hl, back_small hs _⟩
            · exact ⟨cnd _ _ _ (v _ _ _ _ (v _ _ _ _ hl)) hl, next_small hs _ _⟩
          · exact ⟨cnd _ _ _ (v _ _ _ _ hl) hl, next_small hs _ _⟩
        · simp only [cond_true, cond_false]
          cases (!(fld l (nth0 c.reads c.pos.toNat).toNat 2 == 0) && !(fld l (nth0 c.reads c.pos.toNat).toNat 2 == c.who)) || decide (c.rv < fld l (nth0 c.reads c.pos.toNat).toNat 1)
          · exact ⟨hl, next_small hs _ _⟩
          · exact ⟨hl, back_small hs _⟩
      · simp only [cond_true, cond_false]
        cases (cl == 1000000)
        · exact ⟨hl, hs⟩
        · exact ⟨hl, back_small hs _⟩
    · simp only [cond_true]
      cases lockB cl l c.cell c.who
      · exact ⟨hl, back_small hs _⟩
      · exact ⟨v _ _ _ _ hl, next_small hs _ _⟩
theorem markCs {c : Cm} (h : c.small) (s : Int) (s0 : 0 ≤ s) (s1 : s ≤ 4611686018427387904) (k : Int → List (List Int) → List Int → R) :
    laws_markCommit std c.who c.rv c.ph c.pos c.wv c.puts c.reads s k = k (s + 2 * c.puts.length + c.reads.length) (vups 2 s c.puts.length) (ups (s + 2 * c.puts.length) c.reads.length) := by
  obtain ⟨h1, h2, h3⟩ := h
  simp only [laws_markCommit, laws_markCommit_f, markRowS_k c.puts s (by omega) h3 s0 s1]
  rw [markIntS_eq c.reads (s + 2 * (c.puts.length : Int)) (by omega) (by omega) (by omega)]
theorem heldCs {c : Cm} (h : c.small) (s : Int) (s0 : 0 ≤ s) (s1 : s ≤ 4611686018427387904) (a b p t d : Int) (k : Int → R) :
    laws_heldCommit std a b p t d (vups 2 s c.puts.length) (ups (s + 2 * c.puts.length) c.reads.length) s k = k (s + 2 * c.puts.length + c.reads.length) := by
  obtain ⟨h1, h2, h3⟩ := h
  simp only [laws_heldCommit, laws_heldCommit_f, heldRowS_k c.puts.length s (by omega) s0 s1]
  have e0 : std.lt (s + 2 * (c.puts.length : Int)) 0 = false := by rw [std_lt]; exact decide_eq_false (by omega)
  have e1 : std.lt (s + 2 * (c.puts.length : Int) + (c.reads.length : Int)) 0 = false := by rw [std_lt]; exact decide_eq_false (by omega)
  rw [e0, cond_false, heldIntS_eq (s + 2 * (c.puts.length : Int)) c.reads.length (by omega) (by omega) (by omega), e1, cond_false]
theorem posCs (c : Cm) (s : Int) (s0 : 0 ≤ s) : std.lt (s + 2 * (c.puts.length : Int) + (c.reads.length : Int)) 0 = false := by rw [std_lt]; exact decide_eq_false (by omega)
theorem markM {n : Nat} {l : List (List Int)} (h : GoodM n l) (hn : n ≤ 1048576) (c : Int) (k : Int → List (List Int) → R) : laws_markMem std c l 1 k = k (1 + 3 * n) (vups 3 1 n) := by
  obtain ⟨rfl, h2⟩ := h
  simp only [laws_markMem, laws_markMem_f, markWordS_k l 1 (by omega) h2 (by omega) (by omega)]
theorem heldM (n : Nat) (hn : n ≤ 1048576) (c : Int) (k : Int → R) : laws_heldMem std c (vups 3 1 n) 1 k = k (1 + 3 * n) := by
  have e0 : std.lt (1 + 3 * (n : Int)) 0 = false := by rw [std_lt]; exact decide_eq_false (by omega)
  simp only [laws_heldMem, laws_heldMem_f, heldWordS_k n 1 (by omega) (by omega) (by omega), e0, cond_false]
theorem posM (n : Nat) : std.lt (1 + 3 * (n : Int)) 0 = false := by rw [std_lt]; exact decide_eq_false (by omega)
theorem eqM {n : Nat} {l : List (List Int)} (h : GoodM n l) (hn : n ≤ 1048576) (c : Int) (k : Bool → R) : laws_eqMem std c l c l k = k true := by
  simp only [laws_eqMem, laws_eqMem_f, eq_self, not_true', cond_false, eqWordS1 l (by have := h.1; omega)]
theorem toM {n : Nat} {l : List (List Int)} (h : GoodM n l) (hn : n ≤ 1048576) (c : Int) (k : Int → List (List Int) → R) : laws_toMem std c l k = k c l := by
  simp only [laws_toMem, laws_toMem_f, toWordS_eq l (by have := h.1; omega) h.2]
theorem szCommit_at (a b p t d : Int) (l : List (List Int)) (rd : List Int) (s : Int) (s0 : 0 ≤ s) (s1 : s ≤ 1048576) (m1 : l.length ≤ maxLen) (m2 : rd.length ≤ maxLen) (k : Int → R) :
    laws_szCommit std a b p t d l rd s k = k (if s - l.length < 0 then -1 else if s - l.length - rd.length < 0 then -1 else s - l.length - rd.length) := by
  simp only [laws_szCommit, laws_szCommit_f]
  rw [szRowS_eq l s s0 s1 m1]
  by_cases h1 : s - (l.length : Int) < 0
  · rw [if_pos h1, if_pos h1]; rfl
  · rw [if_neg h1, if_neg h1]
    have e0 : std.lt (s - (l.length : Int)) 0 = false := by rw [std_lt]; exact decide_eq_false (by omega)
    rw [e0, cond_false, szIntS_eq rd _ (by omega) (by omega) m2]
    by_cases h2 : s - (l.length : Int) - (rd.length : Int) < 0
    · rw [if_pos h2]; rfl
    · rw [if_neg h2]
      have e1 : std.lt (s - (l.length : Int) - (rd.length : Int)) 0 = false := by rw [std_lt]; exact decide_eq_false (by omega)
      rw [e1, cond_false]
theorem CommitStep_true (cl : Int) (l : List (List Int)) (a b p t d : Int) (pl : List (List Int)) (rd : List Int) (b0 : IntKind.i64.min ≤ cl ∧ cl ≤ IntKind.i64.max) (f0 : FitArr cx (.vecs 35 3 l)) (b1 : IntKind.i64.min ≤ a ∧ a ≤ IntKind.i64.max) (b2 : IntKind.i64.min ≤ b ∧ b ≤ IntKind.i64.max) (b3 : IntKind.i64.min ≤ p ∧ p ≤ IntKind.i64.max) (b4 : IntKind.i64.min ≤ t ∧ t ≤ IntKind.i64.max) (b5 : IntKind.i64.min ≤ d ∧ d ≤ IntKind.i64.max)
    (f1 : FitArr cx (.vecs 139 2 pl)) (f2 : FitArr cx (.ints 3 .i64 rd)) (k : Bool → R) : laws_FnExactCommitStep std cl l a b p t d pl rd k = k true := by
  unfold laws_FnExactCommitStep laws_FnExactCommitStep_f laws_szMem laws_szMem_f
  rw [szWordS_eq l 1048576 (by omega) (by omega) f0.1]
  by_cases hl : (1048576 : Int) - l.length < 0
  · simp [hl]
  · have e0 : std.lt (1048576 - (l.length : Int)) 0 = false := by rw [std_lt]; exact decide_eq_false hl
    rw [if_neg hl]
    simp only [e0, cond_false]
    rw [szCommit_at a b p t d pl rd _ (by omega) (by omega) f1.1 f2.1]
    by_cases g1 : 1048576 - (l.length : Int) - (pl.length : Int) < 0
    · rw [if_pos g1]; simp only [neg1, cond_true]
    · by_cases g2 : 1048576 - (l.length : Int) - (pl.length : Int) - (rd.length : Int) < 0
      · rw [if_neg g1, if_pos g2]; simp only [neg1, cond_true]
      · have e1 : std.lt (1048576 - (l.length : Int) - (pl.length : Int) - (rd.length : Int)) 0 = false := by rw [std_lt]; exact decide_eq_false (by omega)
        rw [if_neg g1, if_neg g2]
        have hn : l.length ≤ 1048576 := by omega
        have h1 : pl.length ≤ 2147483648 := by omega
        have h2 : rd.length ≤ 2147483648 := by omega
        have hw : ∀ r ∈ pl, r.length = 2 := fun r hr => (f1.2 r hr).1
        have hg : GoodM l.length l := ⟨rfl, fun r hr => (f0.2 r hr).1⟩
        have h0 : (⟨a, b, p, t, d, pl, rd⟩ : Cm).small := ⟨by show pl.length ≤ _; omega, by show rd.length ≤ _; omega, hw⟩
        have v := CommitStep_val cl l ⟨a, b, p, t, d, pl, rd⟩ hn h0
        have hs := commitStep_good (cl := cl) hg h0
        have m0 := markCs h0 (1 + 3 * (l.length : Int)) (by omega) (by omega)
        have q0 := posCs (⟨a, b, p, t, d, pl, rd⟩ : Cm) (1 + 3 * (l.length : Int)) (by omega)
        simp only at v m0 q0
        generalize commitStep cl l ⟨a, b, p, t, d, pl, rd⟩ = cs at v hs
        obtain ⟨cl', l', c'⟩ := cs
        obtain ⟨hg', hs'⟩ := hs
        simp only at hg' hs' v
        simp only [e1, cond_false, toM hg hn, toCommit_eq _ _ _ _ _ pl rd h1 hw h2, (v _).1, (v _).2, Cm.k, eqM hg' hn, eqCm hs', not_true', eqM hg hn, eqCommit1 _ _ _ _ _ pl rd h1 h2, markM hg hn, m0, q0, markM hg' hn, markCs hs' (1 + 3 * (l.length : Int)) (by omega) (by omega),
          heldM l.length hn, posM, heldCs hs' (1 + 3 * (l.length : Int)) (by omega) (by omega), posCs c' (1 + 3 * (l.length : Int)) (by omega), eq_self]
end X
