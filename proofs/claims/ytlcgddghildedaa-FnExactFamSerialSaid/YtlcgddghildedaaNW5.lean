/- Models of the functions, or plain laws about them; each theorem states its own conditions. -/
import Derived.Test.YtlcgddghildedaaNW4
import Derived.Test.YtlcgddghildedaaW15
set_option linter.unusedVariables false
set_option linter.unusedSimpArgs false
open Go.Proofs
namespace X
open PM Go
set_option maxHeartbeats 1000000
/-! ## SerialKid -/
theorem kid_both (code : List (List Int)) (hb : code.length ≤ 1048576) (regs cells : List Int) (hr : regs.length ≤ 1048576) (hc : cells.length ≤ 1048576) : ∃ (o : Int) (r c : List Int), c.length ≤ 1048576 ∧ (o = 1 → 0 < r.length) ∧
    ∀ k : Int → List Int → List Int → R, spec_SerialKid std code regs cells k = k o r c ∧ impl_SerialKidX code regs cells k = k o r c := by
  unfold spec_SerialKid spec_SerialKid_f impl_SerialKidX impl_SerialKid_f
  simp only [KidOk_sp code hb, KidOk_im code hb, l4Regs_val regs hr, areValues_val regs hr, l3Vals_val cells hc, areValues_val cells hc]
  have none_ : ∃ (o : Int) (r c : List Int), c.length ≤ 1048576 ∧ (o = 1 → 0 < r.length) ∧ ∀ k : Int → List Int → List Int → R, k 0 [] [] = k o r c ∧ k 0 [] [] = k o r c := ⟨0, [], [], by simp, fun h => (by cases h), fun _ => ⟨rfl, rfl⟩⟩
  cases hk : kidB code
  · exact none_
  cases hvr : valsB regs 4
  · exact none_
  cases hvc : valsB cells 8
  · exact none_
  have m8 : std.mkOk 8 = true := rfl
  have l8 : std.le 8 8 = true := rfl
  simp only [not_true', bf, bt, m8, l8]
  have lm : (std.izero 8).length = 8 := by rw [std_izero, List.length_replicate]; rfl
  obtain ⟨fin, f1, f2, f3⟩ := kid_serial hk (map := std.izero 8) 0 (by omega) hvr hvc
  have hlen := kid_len hk
  have hex : (code.length ≤ 100 ∧ regs.length = 4 ∧ cells.length = 8 ∧ (std.izero 8).length = 8) ∧ ∃ fin, SerialOk code regs cells (std.izero 8) 0 fin := ⟨⟨by omega, valsB_len (n := 4) hvr, valsB_len (n := 8) hvc, lm⟩, fin, f1⟩
  have hs : ∀ k : Int → List Int → List Int → List Int → Int → R, serialX code [] [] regs cells (std.izero 8) 0 k = k hex.2.choose.1 hex.2.choose.2.1 hex.2.choose.2.2 (std.izero 8) 0 := fun k => by
    unfold serialX
    rw [dif_pos hex]
  have hsp := hex.2.choose_spec.2
  generalize hex.2.choose = g at hs hsp
  have e : g = fin := by
    have h := (hsp fun a b c _ _ => some (.agg [.int .i64 a, .arr (.ints 3 .i64 b), .arr (.ints 3 .i64 c)])).symm.trans (f1.2 _)
    simp only [Option.some.injEq, V.agg.injEq, List.cons.injEq, V.int.injEq, V.arr.injEq, Arr.ints.injEq, true_and, and_true] at h
    obtain ⟨h1, h2, h3⟩ := h
    obtain ⟨a, b, c⟩ := g
    obtain ⟨a', b', c'⟩ := fin
    simp only at h1 h2 h3
    rw [h1, h2, h3]
  subst e
  refine ⟨g.1, g.2.1, g.2.2, by rw [valsB_len (n := 8) f3]; omega, fun _ => by rw [valsB_len (n := 4) f2]; omega, fun k => ⟨?_, ?_⟩⟩
  · rw [hsp]
  · rw [hs]
/-! ## FamSerial -/
theorem ilen_set (l : List Int) (i : Int) (x : Int) : std.ilen (std.iset l i x) = std.ilen l := by rw [std_ilen, std_iset, List.length_set, std_ilen]
theorem fam_l {K : List (List C)} (hK : bKidS K) (c0 R0 : List Int) (w : List (List Int)) (t ord : List Int) (hR0 : R0.length = 4) (ho : ∀ x ∈ ord, ∃ q : Nat, q < 4 ∧ q < K.length ∧ x = (q : Int)) (hol : ord.length ≤ 4194304) : ∀ (m i : Nat) (cells regs : List Int), i + m = ord.length → cells.length ≤ 1048576 → regs.length = 4 →
    ∃ c r, c.length ≤ 1048576 ∧ r.length = 4 ∧ ∀ (k : List Int → List Int → R) N, m < N → spec_FamSerial_l0 std (spec_FamOk std) (spec_l7Order std) (spec_Overlay std) (spec_l13Ints std) (spec_SerialKid std) N (i : Int) c0 R0 w K t ord cells regs (fun a b => k b a) = k r c ∧
      impl_FamSerial_l0 std (impl_FamOk std) (impl_orderOk std) (impl_copyInts std) (impl_Overlay std) (impl_fullOrder std) impl_SerialKidX N (std.ilen ord) (i : Int) c0 R0 w K t regs cells ord (fun a b => k a b) = k r c
  | 0, i, cells, regs, h, hc, hr => by
    refine ⟨cells, regs, hc, hr, fun k N hN => ?_⟩
    obtain ⟨N, rfl⟩ : ∃ q, N = q + 1 := ⟨N - 1, by omega⟩
    have e : std.lt (i : Int) (std.ilen ord) = false := by rw [std_ilen]; exact lt_nat_f (by omega)
    simp only [spec_FamSerial_l0, impl_FamSerial_l0, e, bf, and_self]
  | m + 1, i, cells, regs, h, hc, hr => by
    have hi : i < ord.length := by omega
    obtain ⟨q, hq4, hqK, hq⟩ := ho (ord.getD i 0) (getD_mem hi)
    have hq : std.iget ord (i : Int) = (q : Int) := hq
    have e1 : std.lt (i : Int) (std.ilen ord) = true := by rw [std_ilen]; exact lt_nat_t hi
    have e2 : std.inb (i : Int) (std.ilen ord) = true := by rw [std_ilen]; exact inb_nat_t hi
    have e3 : std.inb (q : Int) (std.rlen K) = true := by rw [std_rlen]; exact inb_nat_t hqK
    have e4 : std.inb (q : Int) (std.ilen regs) = true := inA hr hq4
    obtain ⟨o, r, c, kc, ko, kk⟩ := kid_both (std.rsv 4 K (q : Int) 0) (hK.2 q hqK) R0 cells (by omega) hc
    by_cases h1 : o = 1
    · subst h1
      have e5 : std.inb 0 (std.ilen r) = true := by rw [std_ilen, std_inb]; exact decide_eq_true (by have := ko rfl; omega)
      obtain ⟨c', r', p1, p2, p3⟩ := fam_l hK c0 R0 w t ord hR0 ho hol m (i + 1) c (std.iset (std.iset regs (q : Int) 0) (q : Int) (std.iget r 0)) (by omega) kc (by rw [std_iset, List.length_set, std_iset, List.length_set, hr])
      refine ⟨c', r', p1, p2, fun k N hN => ?_⟩
      obtain ⟨N, rfl⟩ : ∃ q, N = q + 1 := ⟨N - 1, by omega⟩
      simp only [spec_FamSerial_l0, impl_FamSerial_l0, e1, e2, bt, hq, e3, (kk _).1, (kk _).2, e4, eqt 1, e5, ilen_set, add1 (i := i) (by omega)]
      exact p3 k N (by omega)
    · obtain ⟨c', r', p1, p2, p3⟩ := fam_l hK c0 R0 w t ord hR0 ho hol m (i + 1) c (std.iset regs (q : Int) 0) (by omega) kc (by rw [std_iset, List.length_set, hr])
      refine ⟨c', r', p1, p2, fun k N hN => ?_⟩
      obtain ⟨N, rfl⟩ : ∃ q, N = q + 1 := ⟨N - 1, by omega⟩
      simp only [spec_FamSerial_l0, impl_FamSerial_l0, e1, e2, bt, hq, e3, (kk _).1, (kk _).2, e4, eqn h1, bf, add1 (i := i) (by omega)]
      exact p3 k N (by omega)
theorem Fam_both (cells regs : List Int) (w : List (List Int)) (K : List (List C)) (t a : List Int) (h1 : cells.length ≤ 1048576) (h2 : regs.length ≤ 1048576) (h3 : w.length ≤ 1048576) (h4 : bKidS K) (ha : a.length ≤ 1048576) : ∃ r c : List Int, r.length ≤ 1048576 ∧ c.length ≤ 1048576 ∧
    ∀ k : List Int → List Int → R, spec_FamSerial std cells regs w K t a k = k r c ∧ impl_FamSerialX cells regs w K t a k = k r c := by
  unfold spec_FamSerial spec_FamSerial_f impl_FamSerialX impl_FamSerial_f
  simp only [FamOk_sp cells regs w K t h1 h2 h3 h4, FamOk_im cells regs w K t h1 h2 h3 h4]
  have none_ : ∃ r c : List Int, r.length ≤ 1048576 ∧ c.length ≤ 1048576 ∧ ∀ k : List Int → List Int → R, k [] [] = k r c ∧ k [] [] = k r c := ⟨[], [], by simp, by simp, fun _ => ⟨rfl, rfl⟩⟩
  cases hf : famB cells regs w K t
  · exact none_
  unfold famB at hf
  simp only [Bool.and_eq_true] at hf
  obtain ⟨f1, f2, f3, f4, f5, f6⟩ := hf
  have hn : K.length ≤ 3 := by have := (of_decide_eq_true f4).2; rw [std_rlen] at this; omega
  have hr4 : regs.length = 4 := valsB_len (n := 4) f2
  have hl : ∀ kk : List Int → R, spec_l13Ints std regs kk = kk regs := fun kk => by
    unfold spec_l13Ints spec_l13Ints_f
    have e : std.room (std.ilen []) (std.ilen regs) = true := by rw [std_room]; exact decide_eq_true (by simp; omega)
    simp only [e, bt]
    rfl
  have ov := ovL_len cells w h1
  simp only [not_true', bf, std_rlen, orderOk_val a K.length hn ha, fullOrder_val a K.length hn ha, copyInts_val regs h2, (Overlay_val cells h1 w h3 _).1, (Overlay_val cells h1 w h3 _).2, hl]
  cases ho : allB (ordP a K.length) a.length
  · obtain ⟨r, c, n1, n2, n3⟩ := none_
    refine ⟨r, c, n1, n2, fun k => ⟨?_, (n3 k).2⟩⟩
    rw [l7Order_val a K.length hn ha _ (k [] []) (fun o => rfl), ho]
    exact (n3 k).1
  generalize hF : std.fuel = N
  have hN : 4294967296 = N := hF
  have fl := full_len a K.length
  obtain ⟨c, r, p1, p2, p3⟩ := fam_l h4 cells regs w t (fullO a K.length) hr4 (fun x hx => by
    obtain ⟨q, q1, q2⟩ := full_in hn ho x hx
    exact ⟨q, by omega, q1, q2⟩) (by omega) (fullO a K.length).length 0 (ovL cells w) regs (by omega) ov hr4
  refine ⟨r, c, by omega, p1, fun k => ?_⟩
  rw [l7Order_val a K.length hn ha _ (k [] []) (fun o => rfl), ho]
  simp only [not_true', bf, bt]
  exact p3 k N (by omega)
end X
