/- Models of the functions, or plain laws about them; each theorem states its own conditions. -/
import Derived.Test.YtnjfchckceaiiaaDS3
set_option linter.unusedVariables false
set_option linter.unusedSimpArgs false
open Go.Proofs
namespace X
open PM Go

theorem iOpOk : impl_OpOk std = spec_OpOk std := rfl
def modeOf (kd : Int) : Int := if kd = 13 ∨ kd = 15 then 1 else 2
theorem Touches_2 (kd a b d : Int) : ∃ t : Int, (∀ k, spec_Touches std kd a b d k = k t) ∧ (t = 2 → opOk kd a b d = true ∧ (kd = 12 ∨ kd = 13 ∨ kd = 14 ∨ kd = 15 ∨ kd = 16)) := by
  simp only [spec_Touches, spec_Touches_f, OpOk_val]
  cases h : opOk kd a b d
  · exact ⟨0, fun k => by simp, fun h => by omega⟩
  · simp only [std_not, Bool.not_true, cond_false, std_eq]
    by_cases h5 : kd = 5
    · subst h5; exact ⟨1, fun k => by simp, fun h => by omega⟩
    by_cases h6 : kd = 6
    · subst h6; exact ⟨1, fun k => by simp, fun h => by omega⟩
    by_cases h12 : kd = 12
    · subst h12; exact ⟨2, fun k => by simp, fun h => by simp⟩
    by_cases h13 : kd = 13
    · subst h13; exact ⟨2, fun k => by simp, fun h => by simp⟩
    by_cases h14 : kd = 14
    · subst h14; exact ⟨2, fun k => by simp, fun h => by simp⟩
    by_cases h15 : kd = 15
    · subst h15; exact ⟨2, fun k => by simp, fun h => by simp⟩
    by_cases h16 : kd = 16
    · subst h16; exact ⟨2, fun k => by simp, fun h => by simp⟩
    have e : ∀ n : Int, kd ≠ n → (kd == n) = false := fun n h => by simpa using h
    exact ⟨0, fun k => by simp [e 5 h5, e 6 h6, e 12 h12, e 13 h13, e 14 h14, e 15 h15, e 16 h16], fun h => by omega⟩
theorem Mode_val {kd a b d : Int} (h : opOk kd a b d = true) (hk : kd = 12 ∨ kd = 13 ∨ kd = 14 ∨ kd = 15 ∨ kd = 16) (k : Int → Int → R) : impl_BoostMode std kd a b d k = k (lockOf kd a b) (modeOf kd) := by
  have nt : std.not true = false := rfl
  simp only [impl_BoostMode, impl_BoostMode_f, iOpOk, OpOk_val, h, nt, bf]
  rcases hk with rfl | rfl | rfl | rfl | rfl <;> rfl
theorem free_of {kd a b d kd' a' b' d' : Int} (hf : OpF kd a b d) (hf' : OpF kd' a' b' d') (hl : lockOf kd a b = lockOf kd' a' b') (h1 : modeOf kd ≠ 2) (h2 : modeOf kd' ≠ 2) : Free kd a b kd' a' b' := by
  have m1 : kd = 13 ∨ kd = 15 := by
    unfold modeOf at h1; split at h1
    · assumption
    · exact absurd rfl h1
  have m2 : kd' = 13 ∨ kd' = 15 := by
    unfold modeOf at h2; split at h2
    · assumption
    · exact absurd rfl h2
  have l13 : ∀ a b : Int, lockOf 13 a b = b := fun _ _ => rfl
  have l15 : ∀ a b : Int, lockOf 15 a b = 8 := fun _ _ => rfl
  rcases m1 with rfl | rfl <;> rcases m2 with rfl | rfl
  · exact .inr (.inl ⟨rfl, rfl⟩)
  · rw [l13, l15] at hl
    rcases hf with ⟨h, _⟩ | ⟨_, _, h⟩ | ⟨h, _⟩ | ⟨h, _⟩ | ⟨h, _⟩ <;> try omega
    have := kOk_r h; omega
  · rw [l13, l15] at hl
    rcases hf' with ⟨h, _⟩ | ⟨_, _, h⟩ | ⟨h, _⟩ | ⟨h, _⟩ | ⟨h, _⟩ <;> try omega
    have := kOk_r h; omega
  · exact .inr (.inr ⟨rfl, rfl⟩)
/-- What the two runs give, by the program's own functions. -/
theorem apart_val {l : List Int} {c kd a b d kd' a' b' d' : Int} {r : List Int} (h : ShOk l c) (hr : regsOk r = true) (ho : opOk kd a b d = true) (hf : OpF kd a b d) (ho' : opOk kd' a' b' d' = true) (hf' : OpF kd' a' b' d') (hfree : Free kd a b kd' a' b') :
    ∃ x y z w : List Int × Int × List Int × Int × Int × Int × Bool, ∃ v : List Int × Int × Bool,
    (∀ k, impl_BoostDo std l c kd a b d r k = k x.1 x.2.1 x.2.2.1 x.2.2.2.1 x.2.2.2.2.1 x.2.2.2.2.2.1 x.2.2.2.2.2.2) ∧
    (∀ k, impl_BoostDo std x.1 x.2.1 kd' a' b' d' r k = k y.1 y.2.1 y.2.2.1 y.2.2.2.1 y.2.2.2.2.1 y.2.2.2.2.2.1 y.2.2.2.2.2.2) ∧
    (∀ k, impl_BoostDo std l c kd' a' b' d' r k = k z.1 z.2.1 z.2.2.1 z.2.2.2.1 z.2.2.2.2.1 z.2.2.2.2.2.1 z.2.2.2.2.2.2) ∧
    (∀ k, impl_BoostDo std z.1 z.2.1 kd a b d r k = k w.1 w.2.1 w.2.2.1 w.2.2.2.1 w.2.2.2.2.1 w.2.2.2.2.2.1 w.2.2.2.2.2.2) ∧
    (∀ k, impl_UndoOne std y.1 y.2.1 x.2.2.2.1 x.2.2.2.2.1 x.2.2.2.2.2.1 k = k v.1 v.2.1 v.2.2) ∧
    mapOf y.1 = mapOf w.1 ∧ y.2.1 = w.2.1 ∧ x.2.2.1 = w.2.2.1 ∧ y.2.2.1 = z.2.2.1 ∧ mapOf v.1 = mapOf z.1 ∧ v.2.1 = z.2.1 ∧ w.2.2.1.length = 4 ∧ z.2.2.1.length = 4 ∧ (mapOf y.1).length = 8 := by
  have h4 := regsOk_len hr
  obtain ⟨x, y, z, w, v, q1, q2, q3, q4, q5, q6, q7, q8, q9⟩ := apart h hr ho hf ho' hf' hfree
  obtain ⟨lx, cx, x1, x2, _⟩ := boost_spec h hr ho hf
  obtain ⟨lz, cz, z1, z2, _⟩ := boost_spec h hr ho' hf'
  have hx : ShOk x.1 x.2.1 := by rw [← q1, x1]; exact x2
  have lx4 : x.2.2.1.length = 4 := by rw [← q1, x1]; exact regV_len.trans h4
  have lz4 : z.2.2.1.length = 4 := by rw [← q3, z1]; exact regV_len.trans h4
  have B : ∀ {l : List Int} {c : Int} (kd a b d : Int) {q : List Int × Int × List Int × Int × Int × Int × Bool}, ShOk l c → boostDo l c kd a b d r = q → ∀ k, impl_BoostDo std l c kd a b d r k = k q.1 q.2.1 q.2.2.1 q.2.2.2.1 q.2.2.2.2.1 q.2.2.2.2.2.1 q.2.2.2.2.2.2 := by
    intro l c kd a b d q hs e k
    have := (BoostDo_val l c kd a b d r (by rw [hs.1.1]; omega) (by omega)).2 k
    rw [e] at this
    exact this
  refine ⟨x, y, z, w, v, B _ _ _ _ h q1, B _ _ _ _ hx q2, B _ _ _ _ h q3, B _ _ _ _ q9.2.1 q4, fun k => ?_, q6.map, q6.2.2.1, q7, q8, q9.map, q9.2.2.1, q7 ▸ lx4, lz4, (mapOf_spec q6.1.1).1⟩
  have := UndoOne_eq y.1 (by rw [q6.1.1.1]; omega) y.2.1 x.2.2.2.1 x.2.2.2.2.1 x.2.2.2.2.2.1 k
  rw [q5] at this
  exact this
theorem FnApart_true (code : List Int) (f : FitArr cx (.ints 5 .u8 code)) (k : Bool → R) : laws_FnApart std code k = k true := by
  unfold laws_FnApart laws_FnApart_f
  simp only [big_val]
  by_cases hb : 1048576 < code.length
  · have e : std.lt 1048576 (std.ilen code) = true := by rw [std_lt, std_ilen]; exact decide_eq_true (by omega)
    simp only [e, bt]
  have e : std.lt 1048576 (std.ilen code) = false := by rw [std_lt, std_ilen]; exact decide_eq_false (by omega)
  obtain ⟨l, c, kd, a, b, d, r, d1, d2, d3, d4⟩ := DrawBoostDo_dr code (by omega)
  obtain ⟨fc, f1, f2⟩ := fresh_dr code 7
  obtain ⟨l', c', kd', a', b', d', r', e1, e2, e3, e4⟩ := DrawBoostDo_dr fc f1
  obtain ⟨t, t1, t2⟩ := Touches_2 kd a b d
  obtain ⟨t', t1', t2'⟩ := Touches_2 kd' a' b' d'
  simp only [e, bf, d4, f2, e4, ShelfOk_val, t1, t1']
  have nt : std.not true = false := rfl
  have nf : std.not false = true := rfl
  have ne : ∀ x y : Int, x ≠ y → std.eq x y = false := fun x y h => by simpa using h
  have se : ∀ x : Int, std.eq x x = true := fun x => by simp
  cases hs : shelfOk l c
  · simp only [nf, bt]
  by_cases h4 : r.length = 4
  case neg => simp only [nt, bf, std_ilen, ne (r.length : Int) 4 (by omega), nf, bt]
  have h4' : (r.length : Int) = 4 := by omega
  by_cases ht : t = 2
  case neg => simp only [nt, bf, std_ilen, h4', se, ne t 2 ht, nf, bt]
  by_cases ht' : t' = 2
  case neg => simp only [nt, bf, std_ilen, h4', se, ht, ne t' 2 ht', nf, bt]
  obtain ⟨o1, o2⟩ := t2 ht
  obtain ⟨o1', o2'⟩ := t2' ht'
  have F := opF_of o1 o2
  have F' := opF_of o1' o2'
  have sh := shelfOk_iff.1 hs
  have hr := d3 h4
  simp only [nt, bf, std_ilen, h4', se, ht, ht', Mode_val o1 o2, Mode_val o1' o2']
  have V := fun hfree => apart_val sh hr o1 F o1' F' hfree
  have L := lock_range F
  have le0 : std.le 0 (lockOf kd a b) = true := by rw [std_le]; exact decide_eq_true L.1
  have lt9 : std.lt (lockOf kd a b) 9 = true := by rw [std_lt]; exact decide_eq_true (by omega)
  have sm : ∀ (l : List Int) (k : Bool → R), laws_sameInts std (mapOf l) (mapOf l) k = k true := fun l k => sameInts_refl (mapOf l) (by have := mapOf_length l; omega) k
  by_cases hl : lockOf kd a b = lockOf kd' a' b'
  · have el : std.eq (lockOf kd a b) (lockOf kd' a' b') = true := by rw [hl]; exact se _
    by_cases hm : modeOf kd = 2
    · simp only [el, bt, hm, se, le0, lt9]
    by_cases hm' : modeOf kd' = 2
    · simp only [el, bt, ne _ _ hm, bf, hm', se, le0, lt9]
    obtain ⟨x, y, z, w, v, g1, g2, g3, g4, g5, g6, g7, g8, g9, g10, g11, g12, g13, g14⟩ := V (free_of F F' hl hm hm')
    simp only [el, bt, ne _ _ hm, ne _ _ hm', bf, g1, g2, g3, g4, g5, MapOf_eq]
    have m8 : ((mapOf w.1).length : Int) = 8 := by rw [← g6]; omega
    simp only [m8, se, bt, bf, g6, g7, g8, g9, g10, g11, sm, sameInts_refl w.2.2.1 (by omega), sameInts_refl z.2.2.1 (by omega)]
  · obtain ⟨x, y, z, w, v, g1, g2, g3, g4, g5, g6, g7, g8, g9, g10, g11, g12, g13, g14⟩ := V (.inl hl)
    simp only [ne _ _ hl, bt, bf, g1, g2, g3, g4, g5, MapOf_eq]
    have m8 : ((mapOf w.1).length : Int) = 8 := by rw [← g6]; omega
    simp only [m8, se, bt, bf, g6, g7, g8, g9, g10, g11, sm, sameInts_refl w.2.2.1 (by omega), sameInts_refl z.2.2.1 (by omega)]
end X
