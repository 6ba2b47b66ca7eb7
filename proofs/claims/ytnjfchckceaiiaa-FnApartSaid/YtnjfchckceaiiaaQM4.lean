/- Models of the functions, or plain laws about them; each theorem states its own conditions. -/
import Derived.Test.YtnjfchckceaiiaaQM3
set_option linter.unusedVariables false
set_option linter.unusedSimpArgs false
open Go.Proofs
namespace X
open PM Go

/-! ## Operations by their locks -/
def sv (l : List Int) (c p : Int) : Int := if p = 8 then c else mv l p
def lockOf (kd a b : Int) : Int := if kd = 12 ∨ kd = 14 then a else if kd = 13 then b else 8
def eff (kd a b : Int) (r : List Int) (x : Int) : Int := if kd = 12 then r.getD b.toNat 0 + 1 else if kd = 14 then 0 else if kd = 15 then (x + r.getD a.toNat 0) % 65536 else x
def regV (kd a b d : Int) (r : List Int) (x : Int) : List Int :=
  if kd = 12 then r.set d.toNat (x.tmod 65536) else if kd = 13 then (bif x == 0 then r.set a.toNat 0 else (r.set a.toNat 0).set a.toNat (x.tmod 65536)) else if kd = 14 then r.set b.toNat (x.tmod 65536)
  else if kd = 15 then r else r.set a.toNat x
def undV (kd a : Int) (r : List Int) (x : Int) : Int × Int × Int := if kd = 12 ∨ kd = 14 then backV a x else if kd = 15 then (3, 0, r.getD a.toNat 0) else (0, 0, 0)
def ueff (kd a : Int) (r : List Int) (x y : Int) : Int := if kd = 12 ∨ kd = 14 then x else if kd = 15 then (y - r.getD a.toNat 0 + 65536) % 65536 else y
theorem allVal_get {r : List Int} : ∀ {n i : Nat}, allVal r n i = true → ∀ j, i ≤ j → j < i + n → 0 ≤ r.getD j 0 ∧ r.getD j 0 ≤ 65535
  | 0, i, _, j, h1, h2 => by omega
  | n + 1, i, h, j, h1, h2 => by
    unfold allVal at h
    cases hv : valOk (r.getD i 0)
    · rw [hv] at h; cases h
    · rw [hv, cond_true] at h
      by_cases e : i = j
      · subst e; exact valOk_nn hv
      · exact allVal_get h j (by omega) (by omega)
theorem regs_get {r : List Int} (h : regsOk r = true) {x : Int} (hx : regOk x = true) : 0 ≤ r.getD x.toNat 0 ∧ r.getD x.toNat 0 ≤ 65535 := by
  have h4 := regsOk_len h
  unfold regsOk at h
  rw [decide_eq_true h4, cond_true] at h
  have := of_decide_eq_true hx
  exact allVal_get h _ (by omega) (by omega)
/-- What an operation asks for. -/
def OpF (kd a b d : Int) : Prop := (kd = 12 ∧ kOk a = true ∧ regOk b = true ∧ regOk d = true) ∨ (kd = 13 ∧ regOk a = true ∧ kOk b = true) ∨ (kd = 14 ∧ kOk a = true ∧ regOk b = true) ∨ (kd = 15 ∧ regOk a = true) ∨ (kd = 16 ∧ regOk a = true)
theorem opF_of {kd a b d : Int} (h : opOk kd a b d = true) (hk : kd = 12 ∨ kd = 13 ∨ kd = 14 ∨ kd = 15 ∨ kd = 16) : OpF kd a b d := by
  rcases hk with rfl | rfl | rfl | rfl | rfl
  · rw [op12] at h
    refine .inl ⟨rfl, ?_⟩
    revert h; cases kOk a <;> cases regOk b <;> cases regOk d <;> simp
  · rw [op13] at h
    refine .inr (.inl ⟨rfl, ?_⟩)
    revert h; cases regOk a <;> cases kOk b <;> simp
  · rw [op14] at h
    refine .inr (.inr (.inl ⟨rfl, ?_⟩))
    revert h; cases kOk a <;> cases regOk b <;> simp
  · rw [op15] at h
    refine .inr (.inr (.inr (.inl ⟨rfl, ?_⟩)))
    revert h; cases regOk a <;> simp
  · rw [op16] at h
    refine .inr (.inr (.inr (.inr ⟨rfl, ?_⟩)))
    revert h; cases regOk a <;> simp
theorem kOk_r {x : Int} (h : kOk x = true) : 0 ≤ x ∧ x ≤ 7 := of_decide_eq_true h
theorem lock_range {kd a b d : Int} (h : OpF kd a b d) : 0 ≤ lockOf kd a b ∧ lockOf kd a b ≤ 8 := by
  unfold lockOf
  rcases h with ⟨rfl, h, _⟩ | ⟨rfl, _, h⟩ | ⟨rfl, h, _⟩ | ⟨rfl, _⟩ | ⟨rfl, _⟩ <;> simp <;> (try have := kOk_r h) <;> omega
theorem sv_range {l : List Int} {c : Int} (h : ShOk l c) (p : Int) : 0 ≤ sv l c p ∧ sv l c p ≤ 65536 ∧ (p = 8 → sv l c p ≤ 65535) := by
  unfold sv
  have := mv_range h.1 p
  have := h.2
  by_cases e : p = 8
  · rw [if_pos e]; omega
  · rw [if_neg e]; omega
theorem sv_key {l : List Int} {c p : Int} (h : p ≤ 7) : sv l c p = mv l p := by unfold sv; rw [if_neg (by omega)]
theorem sv_8 {l : List Int} {c : Int} : sv l c 8 = c := by unfold sv; rw [if_pos rfl]
theorem like_iff {l l' : List Int} {c c' : Int} (h : ShOk l c) (h' : ShOk l' c') : Like l c l' c' ↔ ∀ p : Int, 0 ≤ p → p ≤ 8 → sv l c p = sv l' c' p := by
  constructor
  · intro g p h0 h8
    by_cases e : p = 8
    · subst e; rw [sv_8, sv_8]; exact g.2.2.1
    · rw [sv_key (by omega), sv_key (by omega)]; exact g.2.2.2 p h0 (by omega)
  · intro g
    refine ⟨h, h', ?_, fun q a b => ?_⟩
    · have := g 8 (by omega) (by omega); rwa [sv_8, sv_8] at this
    · have := g q a (by omega); rwa [sv_key b, sv_key b] at this
theorem sv_setkey {l l' : List Int} {c x : Int} {k : Int} (hk : 0 ≤ k ∧ k ≤ 7) (h : ∀ q, mv l' q = if q = k then x else mv l q) (p : Int) : sv l' c p = if p = k then x else sv l c p := by
  unfold sv
  by_cases e : p = 8
  · rw [if_pos e, if_pos e, if_neg (by omega)]
  · rw [if_neg e, if_neg e, h p]
theorem boost_spec {l : List Int} {c kd a b d : Int} {r : List Int} (h : ShOk l c) (hr : regsOk r = true) (hop : opOk kd a b d = true) (hf : OpF kd a b d) :
    ∃ l' c', boostDo l c kd a b d r = (l', c', regV kd a b d r (sv l c (lockOf kd a b)), (undV kd a r (sv l c (lockOf kd a b))).1, (undV kd a r (sv l c (lockOf kd a b))).2.1, (undV kd a r (sv l c (lockOf kd a b))).2.2, true) ∧ ShOk l' c' ∧
      l'.length = l.length ∧ ∀ p, 0 ≤ p → p ≤ 8 → sv l' c' p = if p = lockOf kd a b then eff kd a b r (sv l c (lockOf kd a b)) else sv l c p := by
  unfold boostDo
  rw [shelfOk_iff.2 h, hr, hop]
  simp only [cond_true]
  rcases hf with ⟨rfl, g1, g2, g3⟩ | ⟨rfl, g1, g2⟩ | ⟨rfl, g1, g2⟩ | ⟨rfl, g1⟩ | ⟨rfl, g1⟩
  · have hk := kOk_r g1
    have hl : lockOf 12 a b = a := rfl
    obtain ⟨l', p1, p2, p3⟩ := put_spec h.1 hk (regs_get hr g2)
    have hlen : l'.length = l.length := by have := slotPut_length l a (r.getD b.toNat 0); rw [p1] at this; exact this
    refine ⟨l', c, ?_, ⟨p2, h.2⟩, hlen, fun p h0 h8 => ?_⟩
    · rw [hl, sv_key hk.2, p1]; rfl
    · rw [hl]; exact sv_setkey hk p3 p
  · have hk := kOk_r g2
    have hl : lockOf 13 a b = b := rfl
    refine ⟨l, c, ?_, h, rfl, fun p h0 h8 => ?_⟩
    · rw [hl, sv_key hk.2, get_spec h.1 hk]
      have hm := mv_range h.1 b
      unfold regV
      simp only [show ¬ ((13 : Int) = 12) by omega, if_false, if_true]
      cases hz : mv l b == 0
      · simp only [cond_false, cond_true]
        rw [Int.sub_add_cancel, i64_wrap (by omega) (by omega)]; rfl
      · rfl
    · rw [hl]
      by_cases e : p = b
      · subst e; rw [if_pos rfl]; rfl
      · rw [if_neg e]
  · have hk := kOk_r g1
    have hl : lockOf 14 a b = a := rfl
    obtain ⟨l', p1, p2, p3⟩ := drop_spec h.1 hk
    have hlen : l'.length = l.length := by have := slotDrop_length l a; rw [p1] at this; exact this
    refine ⟨l', c, ?_, ⟨p2, h.2⟩, hlen, fun p h0 h8 => ?_⟩
    · rw [hl, sv_key hk.2, p1]; rfl
    · rw [hl]; exact sv_setkey hk p3 p
  · have hv := regs_get hr g1
    have hl : lockOf 15 a b = 8 := rfl
    have hc := h.2
    have e : (IntKind.i64.wrap (c + r.getD a.toNat 0)).tmod 65536 = (c + r.getD a.toNat 0) % 65536 := by rw [i64_wrap (by omega) (by omega), Int.tmod_eq_emod_of_nonneg (by omega)]
    refine ⟨l, (c + r.getD a.toNat 0) % 65536, ?_, ⟨h.1, by omega⟩, rfl, fun p h0 h8 => ?_⟩
    · rw [hl, sv_8, e]; rfl
    · rw [hl, sv_8]
      by_cases e : p = 8
      · subst e; rw [if_pos rfl, sv_8]; rfl
      · rw [if_neg e, sv_key (by omega), sv_key (by omega)]
  · have hl : lockOf 16 a b = 8 := rfl
    refine ⟨l, c, ?_, h, rfl, fun p h0 h8 => ?_⟩
    · rw [hl, sv_8]; rfl
    · rw [hl]
      by_cases e : p = 8
      · subst e; rw [if_pos rfl]; rfl
      · rw [if_neg e]
theorem undo_spec {ly : List Int} {cy kd a b d x : Int} {r : List Int} (h : ShOk ly cy) (hr : regsOk r = true) (hf : OpF kd a b d) (hx : 0 ≤ x ∧ x ≤ 65536) :
    undoOk (undV kd a r x).1 (undV kd a r x).2.1 (undV kd a r x).2.2 = true ∧ ∃ l' c', undoOne ly cy (undV kd a r x).1 (undV kd a r x).2.1 (undV kd a r x).2.2 = (l', c', true) ∧ ShOk l' c' ∧
      ∀ p, 0 ≤ p → p ≤ 8 → sv l' c' p = if p = lockOf kd a b then ueff kd a r x (sv ly cy (lockOf kd a b)) else sv ly cy p := by
  rcases hf with ⟨rfl, g1, g2, g3⟩ | ⟨rfl, g1, g2⟩ | ⟨rfl, g1, g2⟩ | ⟨rfl, g1⟩ | ⟨rfl, g1⟩
  · have hk := kOk_r g1
    obtain ⟨q1, l', q2, q3, q4⟩ := undo_back h hk hx
    exact ⟨q1, l', cy, q2, q3, fun p _ _ => sv_setkey hk q4 p⟩
  · have hl : lockOf 13 a b = b := rfl
    refine ⟨undoOk0, ly, cy, undo_none h, h, fun p _ _ => ?_⟩
    rw [hl]
    by_cases e : p = b
    · subst e; rw [if_pos rfl]; rfl
    · rw [if_neg e]
  · have hk := kOk_r g1
    obtain ⟨q1, l', q2, q3, q4⟩ := undo_back h hk hx
    exact ⟨q1, l', cy, q2, q3, fun p _ _ => sv_setkey hk q4 p⟩
  · have hv := regs_get hr g1
    obtain ⟨q1, q2⟩ := undo_bump h hv
    have hl : lockOf 15 a b = 8 := rfl
    refine ⟨undoOk3 hv, ly, _, q1, q2, fun p h0 h8 => ?_⟩
    rw [hl]
    by_cases e : p = 8
    · subst e; rw [if_pos rfl, sv_8, sv_8]; rfl
    · rw [if_neg e, sv_key (by omega), sv_key (by omega)]
  · have hl : lockOf 16 a b = 8 := rfl
    refine ⟨undoOk0, ly, cy, undo_none h, h, fun p _ _ => ?_⟩
    rw [hl]
    by_cases e : p = 8
    · subst e; rw [if_pos rfl]; rfl
    · rw [if_neg e]
/-- An undo undoes. -/
theorem ueff_eff {kd a b d : Int} {r : List Int} (hr : regsOk r = true) (hf : OpF kd a b d) {x : Int} (hx : 0 ≤ x ∧ x ≤ 65536) (h8 : lockOf kd a b = 8 → x ≤ 65535) : ueff kd a r x (eff kd a b r x) = x := by
  rcases hf with ⟨rfl, _⟩ | ⟨rfl, _⟩ | ⟨rfl, _⟩ | ⟨rfl, g1⟩ | ⟨rfl, _⟩
  · rfl
  · rfl
  · rfl
  · have hv := regs_get hr g1
    have := h8 rfl
    show ((x + r.getD a.toNat 0) % 65536 - r.getD a.toNat 0 + 65536) % 65536 = x
    omega
  · rfl
theorem boost_false {l : List Int} {c kd a b d : Int} {r : List Int} (h : (boostDo l c kd a b d r).2.2.2.2.2.2 = false) : boostDo l c kd a b d r = (l, c, r, 0, 0, 0, false) := by
  unfold boostDo at h ⊢
  cases h1 : shelfOk l c
  · rfl
  · cases h2 : regsOk r
    · rfl
    · cases h3 : opOk kd a b d
      · rfl
      · rw [h1, h2, h3] at h
        simp only [cond_true] at h ⊢
        by_cases e1 : kd = 12
        · rw [if_pos e1] at h; cases h
        · by_cases e2 : kd = 13
          · rw [if_neg e1, if_pos e2] at h; cases h
          · by_cases e3 : kd = 14
            · rw [if_neg e1, if_neg e2, if_pos e3] at h; cases h
            · by_cases e4 : kd = 15
              · rw [if_neg e1, if_neg e2, if_neg e3, if_pos e4] at h; cases h
              · by_cases e5 : kd = 16
                · rw [if_neg e1, if_neg e2, if_neg e3, if_neg e4, if_pos e5] at h; cases h
                · rw [if_neg e1, if_neg e2, if_neg e3, if_neg e4, if_neg e5]
theorem boost_true {l : List Int} {c kd a b d : Int} {r : List Int} (h : (boostDo l c kd a b d r).2.2.2.2.2.2 = true) : ShOk l c ∧ regsOk r = true ∧ opOk kd a b d = true ∧ OpF kd a b d := by
  have key : shelfOk l c = true ∧ regsOk r = true ∧ opOk kd a b d = true ∧ (kd = 12 ∨ kd = 13 ∨ kd = 14 ∨ kd = 15 ∨ kd = 16) := by
    unfold boostDo at h
    cases h1 : shelfOk l c
    · rw [h1] at h; cases h
    · cases h2 : regsOk r
      · rw [h1, h2] at h; cases h
      · cases h3 : opOk kd a b d
        · rw [h1, h2, h3] at h; cases h
        · refine ⟨rfl, rfl, rfl, ?_⟩
          rw [h1, h2, h3] at h
          simp only [cond_true] at h
          by_cases e1 : kd = 12
          · exact .inl e1
          · by_cases e2 : kd = 13
            · exact .inr (.inl e2)
            · by_cases e3 : kd = 14
              · exact .inr (.inr (.inl e3))
              · by_cases e4 : kd = 15
                · exact .inr (.inr (.inr (.inl e4)))
                · by_cases e5 : kd = 16
                  · exact .inr (.inr (.inr (.inr e5)))
                  · rw [if_neg e1, if_neg e2, if_neg e3, if_neg e4, if_neg e5] at h
                    cases h
  exact ⟨shelfOk_iff.1 key.1, key.2.1, key.2.2.1, opF_of key.2.2.1 key.2.2.2⟩
/-- A step and its undo. -/
theorem boost_undo {l : List Int} {c kd a b d : Int} {r : List Int} (h : (boostDo l c kd a b d r).2.2.2.2.2.2 = true) :
    ShOk (boostDo l c kd a b d r).1 (boostDo l c kd a b d r).2.1 ∧ (boostDo l c kd a b d r).1.length = l.length ∧
    undoOk (boostDo l c kd a b d r).2.2.2.1 (boostDo l c kd a b d r).2.2.2.2.1 (boostDo l c kd a b d r).2.2.2.2.2.1 = true ∧
    ∀ ly cy, Like ly cy (boostDo l c kd a b d r).1 (boostDo l c kd a b d r).2.1 → ∃ l' c', undoOne ly cy (boostDo l c kd a b d r).2.2.2.1 (boostDo l c kd a b d r).2.2.2.2.1 (boostDo l c kd a b d r).2.2.2.2.2.1 = (l', c', true) ∧ Like l' c' l c := by
  obtain ⟨h1, h2, h3, h4⟩ := boost_true h
  obtain ⟨l', c', p1, p2, p3, p4⟩ := boost_spec h1 h2 h3 h4
  rw [p1]
  have hx := sv_range h1 (lockOf kd a b)
  have hlk := lock_range h4
  refine ⟨p2, p3, (undo_spec h1 h2 h4 ⟨hx.1, hx.2.1⟩).1, fun ly cy hL => ?_⟩
  have hy : ShOk ly cy := hL.1
  obtain ⟨_, m, e, q1, q2, q3⟩ := undo_spec hy h2 h4 (x := sv l c (lockOf kd a b)) ⟨hx.1, hx.2.1⟩
  refine ⟨m, e, q1, (like_iff q2 h1).2 fun p g0 g8 => ?_⟩
  have hs := (like_iff hy p2).1 hL
  rw [q3 p g0 g8]
  by_cases e1 : p = lockOf kd a b
  · rw [if_pos e1, hs _ hlk.1 hlk.2, p4 _ hlk.1 hlk.2, if_pos rfl, ueff_eff h2 h4 ⟨hx.1, hx.2.1⟩ hx.2.2, e1]
  · rw [if_neg e1, hs p g0 g8, p4 p g0 g8, if_neg e1]
/-- Two steps whose locks do not conflict. -/
def Free (kd a b kd' a' b' : Int) : Prop := lockOf kd a b ≠ lockOf kd' a' b' ∨ (kd = 13 ∧ kd' = 13) ∨ (kd = 15 ∧ kd' = 15)
theorem regV_len {kd a b d : Int} {r : List Int} {x : Int} : (regV kd a b d r x).length = r.length := by
  unfold regV
  split
  · simp
  · split
    · cases x == 0 <;> simp
    · split
      · simp
      · split <;> simp
theorem apart {l : List Int} {c kd a b d kd' a' b' d' : Int} {r : List Int} (h : ShOk l c) (hr : regsOk r = true) (ho : opOk kd a b d = true) (hf : OpF kd a b d) (ho' : opOk kd' a' b' d' = true) (hf' : OpF kd' a' b' d') (hfree : Free kd a b kd' a' b') :
    ∃ x y z w : List Int × Int × List Int × Int × Int × Int × Bool, ∃ v : List Int × Int × Bool, boostDo l c kd a b d r = x ∧ boostDo x.1 x.2.1 kd' a' b' d' r = y ∧ boostDo l c kd' a' b' d' r = z ∧ boostDo z.1 z.2.1 kd a b d r = w ∧ undoOne y.1 y.2.1 x.2.2.2.1 x.2.2.2.2.1 x.2.2.2.2.2.1 = v ∧
    Like y.1 y.2.1 w.1 w.2.1 ∧ x.2.2.1 = w.2.2.1 ∧ y.2.2.1 = z.2.2.1 ∧ Like v.1 v.2.1 z.1 z.2.1 := by
  obtain ⟨lx, cx, x1, x2, _, x3⟩ := boost_spec h hr ho hf
  obtain ⟨ly, cy, y1, y2, _, y3⟩ := boost_spec (l := lx) (c := cx) x2 hr ho' hf'
  obtain ⟨lz, cz, z1, z2, _, z3⟩ := boost_spec h hr ho' hf'
  obtain ⟨lw, cw, w1, w2, _, w3⟩ := boost_spec (l := lz) (c := cz) z2 hr ho hf
  have hx := sv_range h (lockOf kd a b)
  obtain ⟨_, lv, cv, v1, v2, v3⟩ := undo_spec y2 hr hf (x := sv l c (lockOf kd a b)) ⟨hx.1, hx.2.1⟩
  have k1 := lock_range hf
  have k2 := lock_range hf'
  refine ⟨_, _, _, _, _, x1, y1, z1, w1, v1, ?_⟩
  have uf := ueff_eff hr hf ⟨hx.1, hx.2.1⟩ hx.2.2
  rcases hfree with hne | ⟨rfl, rfl⟩ | ⟨rfl, rfl⟩
  · have exq : sv lx cx (lockOf kd' a' b') = sv l c (lockOf kd' a' b') := by rw [x3 _ k2.1 k2.2, if_neg (fun e => hne e.symm)]
    have ezp : sv lz cz (lockOf kd a b) = sv l c (lockOf kd a b) := by rw [z3 _ k1.1 k1.2, if_neg hne]
    refine ⟨(like_iff y2 w2).2 fun p g0 g8 => ?_, by rw [ezp], by rw [exq], (like_iff v2 z2).2 fun p g0 g8 => ?_⟩
    · rw [y3 p g0 g8, w3 p g0 g8, exq, ezp]
      by_cases e1 : p = lockOf kd' a' b'
      · rw [if_pos e1, if_neg (fun e => hne (e.symm.trans e1)), z3 p g0 g8, if_pos e1]
      · rw [if_neg e1, x3 p g0 g8, z3 p g0 g8, if_neg e1]
    · rw [v3 p g0 g8]
      by_cases e1 : p = lockOf kd a b
      · rw [if_pos e1, y3 _ k1.1 k1.2, if_neg hne, x3 _ k1.1 k1.2, if_pos rfl, uf, e1, ezp]
      · rw [if_neg e1, y3 p g0 g8, z3 p g0 g8, exq]
        by_cases e2 : p = lockOf kd' a' b'
        · rw [if_pos e2, if_pos e2]
        · rw [if_neg e2, if_neg e2, x3 p g0 g8, if_neg e1]
  · have ex : ∀ p, 0 ≤ p → p ≤ 8 → sv lx cx p = sv l c p := fun p g0 g8 => by
      rw [x3 p g0 g8]; split
      · rename_i e; rw [e]; rfl
      · rfl
    have ez : ∀ p, 0 ≤ p → p ≤ 8 → sv lz cz p = sv l c p := fun p g0 g8 => by
      rw [z3 p g0 g8]; split
      · rename_i e; rw [e]; rfl
      · rfl
    have ey : ∀ p, 0 ≤ p → p ≤ 8 → sv ly cy p = sv l c p := fun p g0 g8 => by
      rw [y3 p g0 g8]; split
      · rename_i e; rw [e]; exact ex _ k2.1 k2.2
      · exact ex p g0 g8
    have ew : ∀ p, 0 ≤ p → p ≤ 8 → sv lw cw p = sv l c p := fun p g0 g8 => by
      rw [w3 p g0 g8]; split
      · rename_i e; rw [e]; exact ez _ k1.1 k1.2
      · exact ez p g0 g8
    have ev : ∀ p, 0 ≤ p → p ≤ 8 → sv lv cv p = sv l c p := fun p g0 g8 => by
      rw [v3 p g0 g8]; split
      · rename_i e; rw [e]; exact ey _ k1.1 k1.2
      · exact ey p g0 g8
    exact ⟨(like_iff y2 w2).2 fun p g0 g8 => by rw [ey p g0 g8, ew p g0 g8], by rw [ez _ k1.1 k1.2], by rw [ex _ k2.1 k2.2], (like_iff v2 z2).2 fun p g0 g8 => by rw [ev p g0 g8, ez p g0 g8]⟩
  · have hl : lockOf 15 a b = 8 := rfl
    have hl' : lockOf 15 a' b' = 8 := rfl
    have hv := regs_get hr (show regOk a = true by rcases hf with ⟨e, _⟩ | ⟨e, _⟩ | ⟨e, _⟩ | ⟨_, g⟩ | ⟨e, _⟩ <;> first | exact g | omega)
    have hv' := regs_get hr (show regOk a' = true by rcases hf' with ⟨e, _⟩ | ⟨e, _⟩ | ⟨e, _⟩ | ⟨_, g⟩ | ⟨e, _⟩ <;> first | exact g | omega)
    have ef : ∀ t, eff 15 a b r t = (t + r.getD a.toNat 0) % 65536 := fun t => rfl
    have ef' : ∀ t, eff 15 a' b' r t = (t + r.getD a'.toNat 0) % 65536 := fun t => rfl
    have uf' : ∀ s t, ueff 15 a r s t = (t - r.getD a.toNat 0 + 65536) % 65536 := fun s t => rfl
    rw [hl] at x3 w3 v3 hx
    rw [hl'] at y3 z3
    have h8 := hx.2.2 rfl
    have ex8 := x3 8 (by omega) (by omega)
    have ez8 := z3 8 (by omega) (by omega)
    have ey8 := y3 8 (by omega) (by omega)
    have ew8 := w3 8 (by omega) (by omega)
    have ev8 := v3 8 (by omega) (by omega)
    rw [if_pos rfl] at ex8 ez8 ey8 ew8 ev8
    refine ⟨(like_iff y2 w2).2 fun p g0 g8 => ?_, rfl, rfl, (like_iff v2 z2).2 fun p g0 g8 => ?_⟩
    · by_cases e : p = 8
      · rw [e, ey8, ew8, ex8, ez8, ef, ef', ef, ef']; omega
      · rw [y3 p g0 g8, w3 p g0 g8, if_neg e, if_neg e, x3 p g0 g8, z3 p g0 g8, if_neg e, if_neg e]
    · by_cases e : p = 8
      · rw [e, ev8, ey8, ex8, ez8, uf', ef, ef', ef']; omega
      · rw [v3 p g0 g8, z3 p g0 g8, if_neg e, if_neg e, y3 p g0 g8, if_neg e, x3 p g0 g8, if_neg e]
/-- Undoing all. -/
theorem undoGo_snoc (u : List (List Int)) (r : List Int) : ∀ (m : Nat) (s : List Int × Int), m ≤ u.length → undoGo (u ++ [r]) m s = undoGo u m s
  | 0, s, _ => rfl
  | m + 1, s, h => by
    have e : (u ++ [r]).getD m [] = u.getD m [] := by rw [List.getD_eq_getElem?_getD, List.getElem?_append_left (by omega), ← List.getD_eq_getElem?_getD]
    rw [undoGo, undoGo, e]
    exact undoGo_snoc u r m _ (by omega)
/-- Undoing these rows from a shelf leads back. -/
def Back (u : List (List Int)) (l : List Int) (c : Int) (l0 : List Int) (c0 : Int) : Prop := ∀ ly cy, Like ly cy l c → Like (undoAll ly cy u).1 (undoAll ly cy u).2 l0 c0
theorem back_nil {l : List Int} {c : Int} : Back [] l c l c := fun ly cy h => h
theorem back_snoc {u : List (List Int)} {l l0 : List Int} {c c0 kd a b d : Int} {r : List Int} (hb : Back u l c l0 c0) (h : (boostDo l c kd a b d r).2.2.2.2.2.2 = true) :
    Back (u ++ [[(boostDo l c kd a b d r).2.2.2.1, (boostDo l c kd a b d r).2.2.2.2.1, (boostDo l c kd a b d r).2.2.2.2.2.1]]) (boostDo l c kd a b d r).1 (boostDo l c kd a b d r).2.1 l0 c0 := by
  intro ly cy hL
  obtain ⟨_, _, _, q⟩ := boost_undo h
  obtain ⟨l', c', q1, q2⟩ := q ly cy hL
  have := hb l' c' q2
  unfold undoAll at this ⊢
  rw [List.length_append, List.length_singleton, undoGo]
  have e : (u ++ [[(boostDo l c kd a b d r).2.2.2.1, (boostDo l c kd a b d r).2.2.2.2.1, (boostDo l c kd a b d r).2.2.2.2.2.1]]).getD u.length [] = [(boostDo l c kd a b d r).2.2.2.1, (boostDo l c kd a b d r).2.2.2.2.1, (boostDo l c kd a b d r).2.2.2.2.2.1] := by
    rw [List.getD_eq_getElem?_getD, List.getElem?_append_right (Nat.le_refl _), Nat.sub_self]; rfl
  rw [e, undoGo_snoc _ _ _ _ (Nat.le_refl _)]
  simp only [List.getD_cons_zero, List.getD_cons_succ]
  rw [q1]
  exact this
end X
