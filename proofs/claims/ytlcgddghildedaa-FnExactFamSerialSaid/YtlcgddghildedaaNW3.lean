/- Models of the functions, or plain laws about them; each theorem states its own conditions. -/
import Derived.Test.YtlcgddghildedaaNW2
set_option linter.unusedVariables false
set_option linter.unusedSimpArgs false
open Go.Proofs
namespace X
open PM Go
set_option maxHeartbeats 2000000
/-! ## serial and l7Walk go alike on a kid's code -/
theorem Copy_val (c m : List Int) (n : Int) (hc : c.length ≤ 1048576) (hm : m.length ≤ 1048576) (k : List Int → List Int → Int → R) : spec_l7Copy std c m n k = k c m n := by
  unfold spec_l7Copy spec_l7Copy_f
  have e1 : std.room (std.ilen []) (std.ilen c) = true := by rw [std_room]; exact decide_eq_true (by simp; omega)
  have e2 : std.room (std.ilen []) (std.ilen m) = true := by rw [std_room]; exact decide_eq_true (by simp; omega)
  simp only [e1, e2, bt]
  rfl
noncomputable def Wk (code : List (List Int)) (c0 map : List Int) (cnt : Int) (k : Int → List Int → List Int → List Int → Int → R) (N i : Nat) (Rg C : List Int) (st : St) : R :=
  spec_l7Walk_l0 std (spec_l7Copy std) (spec_EndOf std) (spec_Calc std) N code [] [] (i : Int) Rg cnt 0 0 cnt (mkT map cnt st) C map [] [] [] c0 map (fun o027 o028 o129 o230 o331 => k o027 o129 o230 o331 o028) (fun o0 o1 _ _ o3 o4 _ _ _ => k 1 o0 o3 o4 o1)
def GoodS (st : St) : Prop := ∀ x ∈ st, valsB x.2.1 4 = true ∧ valsB x.2.2 8 = true
theorem opn_0 {K : Int} (h8 : K ≠ 8) (h9 : K ≠ 9) : opn K = 0 := by unfold opn; rw [eqn h8, eqn h9]; rfl
theorem step_plain {code : List (List Int)} {i : Nat} {st : St} (h : Stk code i st) (h8 : kd code i ≠ 8) (h9 : kd code i ≠ 9) : Stk code (i + 1) st := by
  have e : dep code 0 (i + 1) = dep code 0 i := by rw [dep_1, opn_0 h8 h9]; omega
  refine h.go (by omega) e fun j j1 j2 => ?_
  obtain rfl : j = i + 1 := by omega
  omega
theorem opG_v (code : List (List Int)) (i j : Nat) : opG code i j = std.vget code (i : Int) j := by rw [std_vget, Int.toNat_natCast]; rfl
theorem walk_l {code : List (List Int)} (hk : kidB code = true) {c0 map : List Int} (cnt : Int) (hm : map.length ≤ 1048576) (h0 : valsB c0 8 = true) : ∀ (m i : Nat) (Rg C : List Int) (st : St), i + m = code.length → valsB Rg 4 = true → valsB C 8 = true → GoodS st → Stk code i st →
    ∃ fin, Run code c0 i Rg C st fin ∧ (valsB fin.2.1 4 = true ∧ valsB fin.2.2 8 = true) ∧ ∀ k N, m < N → Wk code c0 map cnt k N i Rg C st = k fin.1 fin.2.1 fin.2.2 map cnt := by
  intro m
  induction m using Nat.strongRecOn with
  | ind m ih =>
  intro i Rg C st him hR hC hS hst
  have hlen := kid_len hk
  have lR : Rg.length = 4 := valsB_len (n := 4) hR
  have lC : C.length = 8 := valsB_len (n := 8) hC
  by_cases hi : i < code.length
  case neg =>
    refine ⟨(1, Rg, C), .stop (by omega), ⟨hR, hC⟩, fun k N hN => ?_⟩
    obtain ⟨N, rfl⟩ : ∃ q, N = q + 1 := ⟨N - 1, by omega⟩
    unfold Wk
    simp only [spec_l7Walk_l0, std_vlen, lt_nat_f (show code.length ≤ i by omega), bf]
  obtain ⟨ho, hk1, hk10⟩ := kid_kind hk hi
  have ho : opB (std.vget code (i : Int) 0) (std.vget code (i : Int) 1) (std.vget code (i : Int) 2) (std.vget code (i : Int) 3) = true := ho
  have hkd : kd code i = std.vget code (i : Int) 0 := rfl
  obtain ⟨m, rfl⟩ : ∃ q, m = q + 1 := ⟨m - 1, by omega⟩
  have hcs : (1 ≤ kd code i ∧ kd code i ≤ 4) ∨ kd code i = 5 ∨ kd code i = 6 ∨ kd code i = 7 ∨ kd code i = 8 ∨ kd code i = 9 ∨ kd code i = 10 := by omega
  rcases hcs with h14 | h | h | h | h | h | h
  · obtain ⟨R', hR', kR⟩ := Calc_val (by rw [← hkd]; exact h14) ho hR
    obtain ⟨fin, f1, f2, f3⟩ := ih m (by omega) (i + 1) R' C st (by omega) hR' hC hS (step_plain hst (by omega) (by omega))
    refine ⟨fin, .calc_ (t := true) hi (by rw [opG_v]; exact h14.1) (by rw [opG_v]; exact h14.2) (fun k => by simp only [opG_v]; exact (kR k).2) (by rw [lR]; exact valsB_len (n := 4) hR') f1, f2, fun k N hN => ?_⟩
    obtain ⟨N, rfl⟩ : ∃ q, N = q + 1 := ⟨N - 1, by omega⟩
    rw [hkd] at h14
    rw [← f3 k N (by omega)]
    unfold Wk
    simp only [spec_l7Walk_l0, std_vlen, lt_nat_t hi, inb_nat_t hi, bt, eqn (x := std.vget code (i : Int) 0) (n := 5) (by omega), eqn (x := std.vget code (i : Int) 0) (n := 6) (by omega), eqn (x := std.vget code (i : Int) 0) (n := 7) (by omega), eqn (x := std.vget code (i : Int) 0) (n := 8) (by omega), eqn (x := std.vget code (i : Int) 0) (n := 9) (by omega), eqn (x := std.vget code (i : Int) 0) (n := 10) (by omega), eqn (x := std.vget code (i : Int) 0) (n := 11) (by omega), eqn (x := std.vget code (i : Int) 0) (n := 12) (by omega), eqn (x := std.vget code (i : Int) 0) (n := 13) (by omega), eqn (x := std.vget code (i : Int) 0) (n := 14) (by omega), eqn (x := std.vget code (i : Int) 0) (n := 15) (by omega), eqn (x := std.vget code (i : Int) 0) (n := 16) (by omega), bf, (kR _).1, add1 (i := i) (by omega)]
  · have hK : std.vget code (i : Int) 0 = 5 := h
    have ho5 := ho
    rw [hK] at ho5
    obtain ⟨ra, cb⟩ := op5 _ _ _ ho5
    obtain ⟨x, hx⟩ := nat_of ra.1
    obtain ⟨y, hy⟩ := nat_of cb.1
    have hx4 : x < 4 := by have := ra.2; omega
    have hy8 : y < 8 := by have := cb.2; omega
    obtain ⟨fin, f1, f2, f3⟩ := ih m (by omega) (i + 1) (Rg.set x (C.getD y 0)) C st (by omega) (vals_set (n := 4) hR _ (vals_get (n := 8) hC hy8)) hC hS (step_plain hst (by omega) (by omega))
    refine ⟨fin, .read hi (by rw [opG_v]; exact hK) (by rw [opG_v]; exact hx) (by omega) (by rw [opG_v]; exact hy) (by omega) f1, f2, fun k N hN => ?_⟩
    obtain ⟨N, rfl⟩ : ∃ q, N = q + 1 := ⟨N - 1, by omega⟩
    rw [← f3 k N (by omega)]
    unfold Wk
    simp only [spec_l7Walk_l0, std_vlen, lt_nat_t hi, inb_nat_t hi, bt, hK, eqt 5, hx, hy, inA lC hy8, inA lR hx4, add1 (i := i) (by omega)]
    rfl
  · have hK : std.vget code (i : Int) 0 = 6 := h
    have ho5 := ho
    rw [hK] at ho5
    obtain ⟨ca, rb⟩ := op6 _ _ _ ho5
    obtain ⟨x, hx⟩ := nat_of ca.1
    obtain ⟨y, hy⟩ := nat_of rb.1
    have hx8 : x < 8 := by have := ca.2; omega
    have hy4 : y < 4 := by have := rb.2; omega
    obtain ⟨fin, f1, f2, f3⟩ := ih m (by omega) (i + 1) Rg (C.set x (Rg.getD y 0)) st (by omega) hR (vals_set (n := 8) hC _ (vals_get (n := 4) hR hy4)) hS (step_plain hst (by omega) (by omega))
    refine ⟨fin, .write hi (by rw [opG_v]; exact hK) (by rw [opG_v]; exact hx) (by omega) (by rw [opG_v]; exact hy) (by omega) f1, f2, fun k N hN => ?_⟩
    obtain ⟨N, rfl⟩ : ∃ q, N = q + 1 := ⟨N - 1, by omega⟩
    rw [← f3 k N (by omega)]
    unfold Wk
    simp only [spec_l7Walk_l0, std_vlen, lt_nat_t hi, inb_nat_t hi, bt, bf, hK, show std.eq 6 5 = false from rfl, eqt 6, hx, hy, inA lC hx8, inA lR hy4, add1 (i := i) (by omega)]
    rfl
  · have hK : std.vget code (i : Int) 0 = 7 := h
    have ho5 := ho
    rw [hK] at ho5
    have ra := op7r _ _ _ ho5
    obtain ⟨x, hx⟩ := nat_of ra.1
    have hx4 : x < 4 := by have := ra.2; omega
    obtain ⟨y, hy, y1, y2, y3, y4⟩ := kid_skip hk hi h
    have gx : std.iget Rg (x : Int) = Rg.getD x 0 := rfl
    have ey : std.add .i64 ((i + 1 : Nat) : Int) (y : Int) = ((i + y + 1 : Nat) : Int) := by rw [addw (by omega) (by omega)]; omega
    by_cases hz : Rg.getD x 0 = 0
    · obtain ⟨fin, f1, f2, f3⟩ := ih (m - y) (by omega) (i + y + 1) Rg C st (by omega) hR hC hS (hst.go (by omega) (by rw [show i + y + 1 = i + 1 + y by omega]; exact y3) fun j j1 j2 => y4 j j1 (by omega))
      refine ⟨fin, .skip hi (by rw [opG_v]; exact hK) (by rw [opG_v]; exact hx) (by omega) (by rw [opG_v]; exact hy) (by omega) (by rw [if_pos hz]; exact f1), f2, fun k N hN => ?_⟩
      obtain ⟨N, rfl⟩ : ∃ q, N = q + 1 := ⟨N - 1, by omega⟩
      rw [← f3 k N (by omega)]
      unfold Wk
      simp only [spec_l7Walk_l0, std_vlen, lt_nat_t hi, inb_nat_t hi, bt, bf, hK, show std.eq 7 5 = false from rfl, show std.eq 7 6 = false from rfl, eqt 7, hx, hy, inA lR hx4, gx, hz, eqt 0, add1 (i := i) (by omega), ey]
    · obtain ⟨fin, f1, f2, f3⟩ := ih m (by omega) (i + 1) Rg C st (by omega) hR hC hS (step_plain hst (by omega) (by omega))
      refine ⟨fin, .skip hi (by rw [opG_v]; exact hK) (by rw [opG_v]; exact hx) (by omega) (by rw [opG_v]; exact hy) (by omega) (by rw [if_neg hz]; exact f1), f2, fun k N hN => ?_⟩
      obtain ⟨N, rfl⟩ : ∃ q, N = q + 1 := ⟨N - 1, by omega⟩
      rw [← f3 k N (by omega)]
      unfold Wk
      simp only [spec_l7Walk_l0, std_vlen, lt_nat_t hi, inb_nat_t hi, bt, bf, hK, show std.eq 7 5 = false from rfl, show std.eq 7 6 = false from rfl, eqt 7, hx, hy, inA lR hx4, gx, eqn hz, add1 (i := i) (by omega)]
  · have hK : std.vget code (i : Int) 0 = 8 := h
    have e : dep code 0 (i + 1) = dep code 0 i + 1 := by rw [dep_1, h]; rfl
    obtain ⟨fin, f1, f2, f3⟩ := ih m (by omega) (i + 1) Rg C ((i, Rg, C) :: st) (by omega) hR hC (fun x hx => by
      rcases List.mem_cons.1 hx with rfl | hx
      · exact ⟨hR, hC⟩
      · exact hS x hx) ⟨h, by omega, fun j j1 j2 => by
        obtain rfl : j = i + 1 := by omega
        omega, e, hst⟩
    refine ⟨fin, .begin_ hi (by rw [opG_v]; exact hK) f1, f2, fun k N hN => ?_⟩
    obtain ⟨N, rfl⟩ : ∃ q, N = q + 1 := ⟨N - 1, by omega⟩
    rw [← f3 k N (by omega)]
    have hs := hst.lt
    have r1 : std.room (std.ilen []) (std.ilen Rg) = true := by rw [std_room]; exact decide_eq_true (by simp; omega)
    have r2 : ∀ q : List PM.C, std.room (std.rlen (mkT map cnt st)) (std.rlen [q]) = true := fun q => by rw [std_room, std_rlen, mkT_len, std_rlen]; exact decide_eq_true (by simp; omega)
    unfold Wk
    simp only [spec_l7Walk_l0, std_vlen, lt_nat_t hi, inb_nat_t hi, bt, bf, hK, show std.eq 8 5 = false from rfl, show std.eq 8 6 = false from rfl, show std.eq 8 7 = false from rfl, eqt 8, r1, Copy_val C map cnt (by omega) hm, r2, mkT_push, add1 (i := i) (by omega)]
    rfl
  · have hK : std.vget code (i : Int) 0 = 9 := h
    have e : dep code 0 (i + 1) = dep code 0 i - 1 := by rw [dep_1, h]; rfl
    have hnn := (kid_dep hk).2 (i + 1) (by omega)
    cases st with
    | nil => have : dep code 0 i = 0 := hst; omega
    | cons y st =>
      obtain ⟨a, r, c⟩ := y
      obtain ⟨g1, g2, g3, g4, g5⟩ := hst
      have ha : a < code.length := by omega
      have hoa := (kid_kind hk ha).1
      have g1' : std.vget code (a : Int) 0 = 8 := g1
      have hoa : opB (std.vget code (a : Int) 0) (std.vget code (a : Int) 1) (std.vget code (a : Int) 2) (std.vget code (a : Int) 3) = true := hoa
      rw [g1'] at hoa
      have ra := op8 _ _ _ hoa
      obtain ⟨x, hx⟩ := nat_of ra.1
      have hx4 : x < 4 := by have := ra.2; omega
      obtain ⟨fin, f1, f2, f3⟩ := ih m (by omega) (i + 1) (Rg.set x 1) C st (by omega) (vals_set (n := 4) hR _ (by omega)) hC (fun z hz => hS z (List.mem_cons_of_mem _ hz)) (g5.go (by omega) (by omega) fun j j1 j2 => by
        by_cases hc : j ≤ i
        · have := g3 j j1 hc; omega
        · obtain rfl : j = i + 1 := by omega
          omega)
      refine ⟨fin, .end_ hi (by rw [opG_v]; exact hK) ha (by rw [opG_v]; exact hx) (by omega) f1, f2, fun k N hN => ?_⟩
      obtain ⟨N, rfl⟩ : ∃ q, N = q + 1 := ⟨N - 1, by omega⟩
      rw [← f3 k N (by omega)]
      have hs := g5.lt
      obtain ⟨t1, t2, t3, t4, t5, t6, t7, t8, t9⟩ := mkT_facts map cnt a r c st (by omega)
      unfold Wk
      simp only [spec_l7Walk_l0, std_vlen, lt_nat_t hi, inb_nat_t hi, inb_nat_t ha, bt, bf, hK, show std.eq 9 5 = false from rfl, show std.eq 9 6 = false from rfl, show std.eq 9 7 = false from rfl, show std.eq 9 8 = false from rfl, eqt 9, t1, t2, t3, t4, hx, inA lR hx4, mkT_pop, add1 (i := i) (by omega)]
      rfl
  · have hK : std.vget code (i : Int) 0 = 10 := h
    cases st with
    | nil =>
      refine ⟨(2, Rg, c0), .abort0 hi (by rw [opG_v]; exact hK), ⟨hR, h0⟩, fun k N hN => ?_⟩
      obtain ⟨N, rfl⟩ : ∃ q, N = q + 1 := ⟨N - 1, by omega⟩
      have t9 : std.eq (std.rlen (mkT map cnt [])) 0 = true := rfl
      unfold Wk
      simp only [spec_l7Walk_l0, std_vlen, lt_nat_t hi, inb_nat_t hi, bt, bf, hK, show std.eq 10 5 = false from rfl, show std.eq 10 6 = false from rfl, show std.eq 10 7 = false from rfl, show std.eq 10 8 = false from rfl, show std.eq 10 9 = false from rfl, eqt 10, t9]
    | cons y st =>
      obtain ⟨a, r, c⟩ := y
      obtain ⟨g1, g2, g3, g4, g5⟩ := hst
      have ha : a < code.length := by omega
      have hoa := (kid_kind hk ha).1
      have g1' : std.vget code (a : Int) 0 = 8 := g1
      have hoa : opB (std.vget code (a : Int) 0) (std.vget code (a : Int) 1) (std.vget code (a : Int) 2) (std.vget code (a : Int) 3) = true := hoa
      rw [g1'] at hoa
      have ra := op8 _ _ _ hoa
      obtain ⟨x, hx⟩ := nat_of ra.1
      have hx4 : x < 4 := by have := ra.2; omega
      obtain ⟨hr, hc⟩ := hS _ (List.mem_cons_self ..)
      have hr : valsB r 4 = true := hr
      have hc : valsB c 8 = true := hc
      have lr : r.length = 4 := valsB_len (n := 4) hr
      have lc : c.length = 8 := valsB_len (n := 8) hc
      obtain ⟨d0, dn⟩ := kid_dep hk
      have hda := dn a (by omega)
      obtain ⟨z, z1, z2, z3, z4⟩ := down (f := dep code 0) (v := dep code 0 a) (fun n => by have := dep_1 code n; have := (opn_r (kd code n)).1; omega) (m + 1) i (by omega) (by rw [him, d0]; exact hda)
      have zall : ∀ j, a < j → j ≤ z → dep code 0 a < dep code 0 j := fun j j1 j2 => by
        by_cases hj : j ≤ i
        · exact g3 j j1 hj
        · exact z4 j (by omega) j2
      have hE := EndOf_val (l := code) (by omega) (a := a) (z := z) (by omega) (by omega) g1 z3 (fun j j1 j2 h => by have := zall j j1 j2; omega)
      obtain ⟨fin, f1, f2, f3⟩ := ih (code.length - (z + 1)) (by omega) (z + 1) (r.set x 0) c st (by omega) (vals_set (n := 4) hr _ (by omega)) hc (fun z hz => hS z (List.mem_cons_of_mem _ hz)) (g5.go (by omega) z3 fun j j1 j2 => by
        by_cases hc : j ≤ z
        · have := zall j j1 hc; omega
        · obtain rfl : j = z + 1 := by omega
          omega)
      refine ⟨fin, .abort hi (by rw [opG_v]; exact hK) ha (by rw [opG_v]; exact hx) (by omega) (fun k => (hE k).2) z1 (by omega) f1, f2, fun k N hN => ?_⟩
      obtain ⟨N, rfl⟩ : ∃ q, N = q + 1 := ⟨N - 1, by omega⟩
      rw [← f3 k N (by omega)]
      have hs := g5.lt
      obtain ⟨t1, t2, t3, t4, t5, t6, t7, t8, t9⟩ := mkT_facts map cnt a r c st (by omega)
      have r1 : std.room (std.ilen []) (std.ilen r) = true := by rw [std_room]; exact decide_eq_true (by simp; omega)
      have ap : std.iapp [] r = r := rfl
      unfold Wk
      simp only [spec_l7Walk_l0, std_vlen, lt_nat_t hi, inb_nat_t hi, inb_nat_t ha, bt, bf, hK, show std.eq 10 5 = false from rfl, show std.eq 10 6 = false from rfl, show std.eq 10 7 = false from rfl, show std.eq 10 8 = false from rfl, show std.eq 10 9 = false from rfl, eqt 10, t1, t2, t3, t4, t5, t6, t7, t8, t9, r1, ap, Copy_val c map cnt (by omega) hm, hx, inA lr hx4, (hE _).1, mkT_pop, add1 (i := z) (by omega)]
      rfl
/-- Both do the same on a kid's code. -/
theorem kid_serial {code : List (List Int)} (hk : kidB code = true) {regs cells map : List Int} (cnt : Int) (hm : map.length ≤ 1048576) (hr : valsB regs 4 = true) (hc : valsB cells 8 = true) :
    ∃ fin, (Run code cells 0 regs cells [] fin ∧ ∀ k, spec_l7Walk std code [] [] regs cells map cnt k = k fin.1 fin.2.1 fin.2.2 map cnt) ∧ valsB fin.2.1 4 = true ∧ valsB fin.2.2 8 = true := by
  have hlen := kid_len hk
  have lR : regs.length = 4 := valsB_len (n := 4) hr
  have lC : cells.length = 8 := valsB_len (n := 8) hc
  obtain ⟨fin, f1, f2, f3⟩ := walk_l hk (c0 := cells) cnt hm hc code.length 0 regs cells [] (by omega) hr hc (fun x hx => by cases hx) (show dep code 0 0 = 0 from rfl)
  refine ⟨fin, ⟨f1, fun k => ?_⟩, f2⟩
  have h := f3 k
  unfold spec_l7Walk spec_l7Walk_f
  generalize hF : std.fuel = N
  have hN : 4294967296 = N := hF
  have r1 : std.room (std.ilen []) (std.ilen regs) = true := by rw [std_room]; exact decide_eq_true (by simp; omega)
  simp only [Copy_val cells map cnt (by omega) hm, r1, bt]
  exact h N (by omega)
end X
