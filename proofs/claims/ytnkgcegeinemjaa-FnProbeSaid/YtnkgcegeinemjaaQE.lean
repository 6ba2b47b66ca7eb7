/- Models of the functions, or plain laws about them; each theorem states its own conditions. -/
import Derived.Test.YtnkgcegeinemjaaQD2
set_option linter.unusedVariables false
set_option linter.unusedSimpArgs false
open Go.Proofs
namespace X
open PM Go

theorem inb_small {x : Int} {n : Nat} (h : 0 ≤ x ∧ x < n) : std.inb x (n : Int) = true := by rw [std_inb]; exact decide_eq_true h
theorem Any3_dr (b : List Int) (i h : Int) (ha : At b i) : ∃ c l i' h', l.length ≤ 8 ∧ Wide 3 l ∧ At b i' ∧ ∀ k, spec_l3Any std b i h k = k c l b i' h' := by
  obtain ⟨c, l, i1, h1, l8, lw, a1, k1⟩ := Mem3_dr b i h ha
  obtain ⟨x2, i2, h2, p2, a2, k2⟩ := Below_pos b i1 h1 8 a1 (by omega)
  obtain ⟨x3, i3, h3, -, a3, k3⟩ := Below_dr b i2 h2 30 a2
  have ei : std.inb x2 (std.vlen l) = true := by rw [std_vlen]; exact inb_small (by omega)
  have es : std.subb 0 x2 (std.vlen l) = true := by rw [std_vlen, std_subb]; exact decide_eq_true (by omega)
  have vw : ∀ (j : Nat) (x : Int), (std.vset l x2 j x).length ≤ 8 ∧ Wide 3 (std.vset l x2 j x) := fun j x => ⟨by rw [vset_len]; omega, vset_w lw _ _ _⟩
  simp only [spec_l3Any, spec_l3Any_f, k1, k2, k3, ei, es, bt]
  cases std.eq x3 0
  · cases std.eq x3 1
    · cases std.eq x3 2
      · cases std.eq x3 3
        · cases std.eq x3 4
          · cases std.eq x3 5
            · exact ⟨c, l, i3, h3, by omega, lw, a3, fun k => rfl⟩
            · exact ⟨c, _, i3, h3, (vw 1 (-1)).1, (vw 1 (-1)).2, a3, fun k => rfl⟩
          · exact ⟨_, l, i3, h3, by omega, lw, a3, fun k => rfl⟩
        · obtain ⟨x4, i4, h4, -, a4, k4⟩ := Below_dr b i3 h3 2 a3
          simp only [bt, bf, k4]
          exact ⟨c, _, i4, h4, (vw 2 _).1, (vw 2 _).2, a4, fun k => rfl⟩
      · exact ⟨c, _, i3, h3, (vw 0 65536).1, (vw 0 65536).2, a3, fun k => rfl⟩
    · exact ⟨c, _, i3, h3, (vw 1 _).1, (vw 1 _).2, a3, fun k => rfl⟩
  · refine ⟨c, std.vsub l 0 x2, i3, h3, ?_, ?_, a3, fun k => rfl⟩
    · rw [std_vsub]; simp; omega
    · intro r hr
      rw [std_vsub] at hr
      exact lw r (List.mem_of_mem_drop (List.mem_of_mem_take hr))
theorem Any9_dr (b : List Int) (i h : Int) (ha : At b i) : ∃ c p v x i' h', At b i' ∧ ∀ k, spec_l9Any std b i h k = k c p v x b i' h' := by
  obtain ⟨x1, i1, h1, -, a1, k1⟩ := Below_dr b i h 8 ha
  obtain ⟨x2, i2, h2, -, a2, k2⟩ := Below_dr b i1 h1 5 a1
  have tail : ∀ (v x i h : Int), At b i → ∃ c p v' x' i' h', At b i' ∧ ∀ k : Int → Int → Int → Int → List Int → Int → Int → R, (spec_l1Below std b i h 24 (fun r17 r18 r19 r20 =>
      bif std.eq r17 0 then k 8 x2 v x r18 r19 r20 else bif std.eq r17 1 then k x1 5 v x r18 r19 r20 else bif std.eq r17 2 then k x1 x2 (-1) x r18 r19 r20 else bif std.eq r17 3 then k x1 x2 v 65536 r18 r19 r20 else k x1 x2 v x r18 r19 r20)) = k c p v' x' b i' h' := by
    intro v x i h ha
    obtain ⟨y, i', h', -, a', k'⟩ := Below_dr b i h 24 ha
    simp only [k']
    cases std.eq y 0
    · cases std.eq y 1
      · cases std.eq y 2
        · cases std.eq y 3
          · exact ⟨_, _, _, _, _, _, a', fun k => rfl⟩
          · exact ⟨_, _, _, _, _, _, a', fun k => rfl⟩
        · exact ⟨_, _, _, _, _, _, a', fun k => rfl⟩
      · exact ⟨_, _, _, _, _, _, a', fun k => rfl⟩
    · exact ⟨_, _, _, _, _, _, a', fun k => rfl⟩
  simp only [spec_l9Any, spec_l9Any_f, k1, k2]
  cases std.lt 0 x2
  · cases std.lt 1 x2
    · simp only [bf]
      exact tail 0 0 i2 h2 a2
    · obtain ⟨x4, i4, h4, -, a4, k4⟩ := Draw3_dr b i2 h2 a2
      simp only [bt, bf, k4]
      exact tail 0 x4 i4 h4 a4
  · obtain ⟨x3, i3, h3, -, a3, k3⟩ := Below_dr b i2 h2 12 a2
    cases std.lt 1 x2
    · simp only [bt, bf, k3]
      exact tail x3 0 i3 h3 a3
    · obtain ⟨x4, i4, h4, -, a4, k4⟩ := Draw3_dr b i3 h3 a3
      simp only [bt, k3, k4]
      exact tail x3 x4 i4 h4 a4
theorem DrawProbe_dr (code : List Int) (hb : code.length ≤ 1048576) : ∃ cl l rv c p v x, l.length ≤ 8 ∧ ∀ k, spec_DrawProbeStep std code k = k cl l rv c p v x := by
  obtain ⟨h0, k0⟩ := New_dr code hb
  have a0 : At code 0 := ⟨Int.le_refl _, by omega, hb⟩
  obtain ⟨c1, l1, i1, h1, l18, -, a1, k1⟩ := Mem3_dr code 0 h0 a0
  obtain ⟨d2, i2, h2, -, a2, k2⟩ := Once_dr code i1 h1 15 a1
  simp only [spec_DrawProbeStep, spec_DrawProbeStep_f, k0, k1, k2]
  cases d2
  · simp only [bf]
    obtain ⟨c, p, v, x, i3, h3, a3, k3⟩ := Any9_dr code i2 h2 a2
    obtain ⟨y, i5, h5, -, a5, k5⟩ := Below_dr code i3 h3 14 a3
    simp only [k3, (ProbeOk_val c p v x _).1]
    cases hp : probeOk c p v x
    · exact ⟨c1, l1, std.sub .i64 y 1, c, p, v, x, (Nat.le_of_eq l18), fun k => by simp only [bf, k5]⟩
    · have hc : 0 ≤ c ∧ c ≤ 7 := by
        unfold probeOk at hp
        rw [Bool.and_eq_true] at hp
        exact of_decide_eq_true hp.1
      by_cases h8 : l1.length = 8
      · have e8 : std.eq (std.vlen l1) 8 = true := by rw [std_vlen, h8]; rfl
        have ei : std.inb c (std.vlen l1) = true := by rw [std_vlen]; exact inb_small (by omega)
        obtain ⟨d, i4, h4, -, a4, k4⟩ := Once_dr code i3 h3 2 a3
        obtain ⟨z, i6, h6, -, a6, k6⟩ := Below_dr code i4 h4 14 a4
        cases d
        · exact ⟨c1, l1, std.sub .i64 z 1, c, p, v, x, (Nat.le_of_eq l18), fun k => by simp only [bt, e8, k4, bf, k6]⟩
        · exact ⟨c1, l1, std.sub .i64 z 1, c, p, std.vget l1 c 1, x, (Nat.le_of_eq l18), fun k => by simp only [bt, e8, k4, ei, k6]⟩
      · have e8 : std.eq (std.vlen l1) 8 = false := by rw [std_vlen, std_eq]; exact beq_eq_false_iff_ne.2 (by omega)
        exact ⟨c1, l1, std.sub .i64 y 1, c, p, v, x, (Nat.le_of_eq l18), fun k => by simp only [bt, e8, bf, k5]⟩
  · obtain ⟨c3, l3, i3, h3, l38, -, a3, k3⟩ := Any3_dr code i2 h2 a2
    simp only [bt, k3]
    obtain ⟨c, p, v, x, i7, h7, a7, k7⟩ := Any9_dr code i3 h3 a3
    obtain ⟨y, i5, h5, -, a5, k5⟩ := Below_dr code i7 h7 14 a7
    simp only [k7, (ProbeOk_val c p v x _).1]
    cases hp : probeOk c p v x
    · exact ⟨c3, l3, std.sub .i64 y 1, c, p, v, x, l38, fun k => by simp only [bf, k5]⟩
    · have hc : 0 ≤ c ∧ c ≤ 7 := by
        unfold probeOk at hp
        rw [Bool.and_eq_true] at hp
        exact of_decide_eq_true hp.1
      by_cases h8 : l3.length = 8
      · have e8 : std.eq (std.vlen l3) 8 = true := by rw [std_vlen, h8]; rfl
        have ei : std.inb c (std.vlen l3) = true := by rw [std_vlen]; exact inb_small (by omega)
        obtain ⟨d, i4, h4, -, a4, k4⟩ := Once_dr code i7 h7 2 a7
        obtain ⟨z, i6, h6, -, a6, k6⟩ := Below_dr code i4 h4 14 a4
        cases d
        · exact ⟨c3, l3, std.sub .i64 z 1, c, p, v, x, l38, fun k => by simp only [bt, e8, k4, bf, k6]⟩
        · exact ⟨c3, l3, std.sub .i64 z 1, c, p, std.vget l3 c 1, x, l38, fun k => by simp only [bt, e8, k4, ei, k6]⟩
      · have e8 : std.eq (std.vlen l3) 8 = false := by rw [std_vlen, std_eq]; exact beq_eq_false_iff_ne.2 (by omega)
        exact ⟨c3, l3, std.sub .i64 y 1, c, p, v, x, l38, fun k => by simp only [bt, e8, bf, k5]⟩
/-! ## FnProbe -/
theorem probeStep_bad {cl : Int} {l : List (List Int)} {rv c p v x : Int} (h : (memOk cl l && probeOk c p v x) = false) : probeStep cl l rv c p v x = (c, p, v, x) := by
  unfold probeStep; rw [h]; rfl
theorem and4 (a b c d : Int) : std.and (std.eq a a) (std.and (std.eq b b) (std.and (std.eq c c) (std.eq d d))) = true := by simp
theorem probe_ok {c : Int} (hc : cellB c = true) {p v x : Int} (hp : 0 ≤ p ∧ p ≤ 4) (hv : 0 ≤ v ∧ v ≤ 1000000) (hx : 0 ≤ x ∧ x ≤ 65535) : probeOk c p v x = true := by
  unfold probeOk inB valB
  rw [hc, decide_eq_true hp, decide_eq_true hv, decide_eq_true hx]; rfl
theorem Probe_loop (cl : Int) (l : List (List Int)) (hb : l.length ≤ 2147483648) (rv c p v x : Int) (kx : Int → Int → List (List Int) → Int → Int → Int → Int → Int → Int → Int → Int → R) (N : Nat) (hN : 3 < N) (q : Int × Int × Int × Int) :
    laws_FnProbe_l0 std (spec_MemOk std) (spec_ProbeOk std) (impl_ProbeStep std) (impl_ProbeNew std) (laws_big std) (spec_DrawProbeStep std) N rv 0 cl l c p v x q.1 q.2.1 q.2.2.1 q.2.2.2 kx =
      (fun s : Int × Int × Int × Int => kx rv cl l c p v x s.1 s.2.1 s.2.2.1 s.2.2.2) (foldB (fun _ s => probeStep cl l rv s.1 s.2.1 s.2.2.1 s.2.2.2) 3 q) := by
  refine loop_fold0 (F := fun n i (s : Int × Int × Int × Int) => laws_FnProbe_l0 std (spec_MemOk std) (spec_ProbeOk std) (impl_ProbeStep std) (impl_ProbeNew std) (laws_big std) (spec_DrawProbeStep std) n rv i cl l c p v x s.1 s.2.1 s.2.2.1 s.2.2.2 kx)
    (kx := fun s : Int × Int × Int × Int => kx rv cl l c p v x s.1 s.2.1 s.2.2.1 s.2.2.2) (f := fun _ s => probeStep cl l rv s.1 s.2.1 s.2.2.1 s.2.2.2) (len := 3) (fun _ _ => True) hN trivial (fun n i s hi _ => ?_) (fun _ _ _ _ => trivial) (fun n s _ => ?_)
  · have e1 : std.lt (i : Int) 3 = true := lt_nat_t (n := 3) hi
    simp only [laws_FnProbe_l0, e1, bt, (ProbeStep_val cl l rv _ _ _ _ hb _).2, add1 (i := i) (by omega)]
  · have e1 : std.lt ((3 : Nat) : Int) 3 = false := lt_nat_f (n := 3) (Nat.le_refl _)
    simp only [laws_FnProbe_l0, e1, bf]
theorem FnProbe_true (code : List Int) (f : FitArr cx (.ints 5 .u8 code)) (k : Bool → R) : laws_FnProbe std code k = k true := by
  unfold laws_FnProbe laws_FnProbe_f
  have bigv : ∀ k : Bool → R, laws_big std code k = k (std.lt 1048576 (std.ilen code)) := fun k => rfl
  simp only [bigv]
  by_cases hb : 1048576 < code.length
  · have e : std.lt 1048576 (std.ilen code) = true := by rw [std_lt, std_ilen]; exact decide_eq_true (by omega)
    simp only [e, bt]
  · have e : std.lt 1048576 (std.ilen code) = false := by rw [std_lt, std_ilen]; exact decide_eq_false (by omega)
    obtain ⟨cl, l, rv, c, p, v, x, hl, hd⟩ := DrawProbe_dr code (by omega)
    have hl2 : l.length ≤ 2147483648 := by omega
    simp only [e, bf, hd, (MemOk_val cl l hl2 _).1, (ProbeOk_val c p v x _).1, (ProbeStep_val cl l rv _ _ _ _ hl2 _).2, bif_not]
    cases hm : memOk cl l
    · rw [probeStep_bad (by rw [hm]; rfl)]
      simp only [bf, and4]
    · cases hp : probeOk c p v x
      · rw [probeStep_bad (by rw [hm, hp]; rfl)]
        simp only [bt, bf, and4]
      · have hc : cellB c = true := by
          unfold probeOk at hp
          rw [Bool.and_eq_true] at hp
          exact hp.1
        have hcb : 0 ≤ c ∧ c ≤ 7 := of_decide_eq_true hc
        obtain ⟨h8, hcl, hw⟩ := memOk_spec hm
        obtain ⟨w0, w1, w2⟩ := hw c.toNat (by omega)
        have hN : ∀ k : Int → Int → Int → Int → Bool → R, impl_ProbeNew std c k = k c 0 0 0 true := fun k => by simp only [impl_ProbeNew, impl_ProbeNew_f, cell_val', hc, not_true', bf]
        have ei : std.inb c (std.vlen l) = true := by rw [std_vlen]; exact inb_small (by omega)
        generalize hNf : std.fuel = N
        have hNf : 4294967296 = N := hNf
        have lp := fun kx => Probe_loop cl l hl2 rv c p v x kx N (by omega) (c, 0, 0, 0)
        simp only at lp
        simp only [bt, hN, lp, ei, vget_at]
        have f3 : foldB (fun _ (s : Int × Int × Int × Int) => probeStep cl l rv s.1 s.2.1 s.2.2.1 s.2.2.2) 3 (c, 0, 0, 0) = probeStep cl l rv (probeStep cl l rv (probeStep cl l rv c 0 0 0).1 (probeStep cl l rv c 0 0 0).2.1 (probeStep cl l rv c 0 0 0).2.2.1 (probeStep cl l rv c 0 0 0).2.2.2).1 (probeStep cl l rv (probeStep cl l rv c 0 0 0).1 (probeStep cl l rv c 0 0 0).2.1 (probeStep cl l rv c 0 0 0).2.2.1 (probeStep cl l rv c 0 0 0).2.2.2).2.1 (probeStep cl l rv (probeStep cl l rv c 0 0 0).1 (probeStep cl l rv c 0 0 0).2.1 (probeStep cl l rv c 0 0 0).2.2.1 (probeStep cl l rv c 0 0 0).2.2.2).2.2.1 (probeStep cl l rv (probeStep cl l rv c 0 0 0).1 (probeStep cl l rv c 0 0 0).2.1 (probeStep cl l rv c 0 0 0).2.2.1 (probeStep cl l rv c 0 0 0).2.2.2).2.2.2 := rfl
        rw [f3]
        have o0 := probe_ok hc (p := 0) (v := 0) (x := 0) (by omega) (by omega) (by omega)
        by_cases hgo : fld l c.toNat 2 = 0 ∧ fld l c.toNat 1 ≤ rv
        · have o1 := probe_ok hc (p := 1) (v := fld l c.toNat 1) (x := 0) (by omega) (by omega) (by omega)
          have o2 := probe_ok hc (p := 2) (v := fld l c.toNat 1) (x := fld l c.toNat 0) (by omega) (by omega) w0
          have s1 : probeStep cl l rv c 0 0 0 = (c, 1, fld l c.toNat 1, 0) := by simp [probeStep, hm, o0, hgo.1, hgo.2]
          have s2 : probeStep cl l rv c 1 (fld l c.toNat 1) 0 = (c, 2, fld l c.toNat 1, fld l c.toNat 0) := by simp [probeStep, hm, o1]
          have s3 : probeStep cl l rv c 2 (fld l c.toNat 1) (fld l c.toNat 0) = (c, 3, fld l c.toNat 1, fld l c.toNat 0) := by simp [probeStep, hm, o2, hgo.1]
          have s4 : probeStep cl l rv c 3 (fld l c.toNat 1) (fld l c.toNat 0) = (c, 3, fld l c.toNat 1, fld l c.toNat 0) := by
            unfold probeStep
            cases (memOk cl l && probeOk c 3 (fld l c.toNat 1) (fld l c.toNat 0)) <;> rfl
          have elt : std.lt rv (fld l c.toNat 1) = false := by rw [std_lt]; exact decide_eq_false (by omega)
          simp only [s1, s2, s3, hgo.1, eq_self, elt, bt, bf]
          refine ((ProbeStep_val cl l rv c 3 _ _ hl2 _).2).trans ?_
          simp only [s4, and4]
        · have s1 : probeStep cl l rv c 0 0 0 = (c, 4, 0, 0) := by
            have : ((fld l c.toNat 2 == 0) && decide (fld l c.toNat 1 ≤ rv)) = false := by
              by_cases h1 : fld l c.toNat 2 = 0
              · have h2 : ¬ fld l c.toNat 1 ≤ rv := fun h => hgo ⟨h1, h⟩
                simp [h2]
              · simp [h1]
            simp [probeStep, hm, o0, this]
          have s4 : probeStep cl l rv c 4 0 0 = (c, 4, 0, 0) := by
            unfold probeStep
            cases (memOk cl l && probeOk c 4 0 0) <;> rfl
          simp only [s1, s4, eq_self]
          by_cases h1 : fld l c.toNat 2 = 0
          · have h2 : ¬ fld l c.toNat 1 ≤ rv := fun h => hgo ⟨h1, h⟩
            have elt : std.lt rv (fld l c.toNat 1) = true := by rw [std_lt]; exact decide_eq_true (by omega)
            simp only [h1, eq_self, elt, bt]
          · have e2 : std.eq (fld l c.toNat 2) 0 = false := by rw [std_eq]; exact beq_eq_false_iff_ne.2 h1
            simp only [e2, bf]
end X
