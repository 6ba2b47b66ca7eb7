/- Models of the functions, or plain laws about them; each theorem states its own conditions. -/
import Derived.Test.YtnkgcegeinemjaaQC8
set_option linter.unusedVariables false
set_option linter.unusedSimpArgs false
open Go.Proofs
namespace X
open PM Go

theorem Commits_l2 {cl : Int} {l : List (List Int)} {puts reads : List (List Int)} (hm : memOk cl l = true) (hg0 : GoodM 8 l) (hpl : puts.length ≤ 2147483648) (N : Nat) (hN : 8 < N) (d1 d2 d3 d4 d5 : Int) (d6 : List (List Int)) (d7 : List Int) (a b ph pos wv : Int) (P : List (List Int)) (Rd : List Int) (cl2 : Int) (l2 : List (List Int)) (hg : GoodM 8 l2)
    (h : (ph = 6 ∧ wv = cl + 1 ∧ cl < 1000000 ∧ Wr l (net puts) (cl + 1) (net puts).length (net puts).length l2) ∨ (ph = 8 ∧ Lk l (net puts) 0 l2)) (kret : Bool → R) (kx : Int → List (List Int) → Int → Int → Int → Int → Int → List (List Int) → List Int → Int → Int → Int → Int → Int → List (List Int) → List Int → Int → List (List Int) → R) :
    laws_FnCommits_l2 std (spec_MemOk std) (spec_RowsOk std) (spec_CommitOk std) (spec_CommitLeft std) (impl_CommitLeft std) (spec_Last std) (impl_CommitNew std) (impl_CommitStep std) (laws_big std) (spec_DrawCommitStep std) (spec_DrawCommitNew std) N puts 0 cl l d1 d2 d3 d4 d5 d6 d7 a b ph pos wv P Rd cl2 l2 kret kx = kx cl l d1 d2 d3 d4 d5 d6 d7 a b ph pos wv P Rd cl2 l2 := by
  have h8 := (memOk_spec hm).1
  have hl := loop_all0 (p := fun _ => true) (len := 8) (F := fun n i => laws_FnCommits_l2 std (spec_MemOk std) (spec_RowsOk std) (spec_CommitOk std) (spec_CommitLeft std) (impl_CommitLeft std) (spec_Last std) (impl_CommitNew std) (impl_CommitStep std) (laws_big std) (spec_DrawCommitStep std) (spec_DrawCommitNew std) n puts i cl l d1 d2 d3 d4 d5 d6 d7 a b ph pos wv P Rd cl2 l2 kret kx) (yes := kx cl l d1 d2 d3 d4 d5 d6 d7 a b ph pos wv P Rd cl2 l2) (no := none) (N := N) hN (fun n i hi => ?_) (fun n => ?_)
  · exact hl
  · have e1 : std.lt (i : Int) (std.vlen l2) = true := by rw [std_vlen, hg.1]; exact lt_nat_t hi
    have i1 : std.inb (i : Int) (std.vlen l2) = true := by rw [std_vlen, hg.1]; exact inb_nat_t hi
    have i2 : std.inb (i : Int) (std.vlen l) = true := by rw [std_vlen, h8]; exact inb_nat_t hi
    have a3 : ∀ x y z : Int, std.and (std.eq x x) (std.and (std.eq y y) (std.eq z z)) = true := fun x y z => by simp
    have eqq : ∀ x : Int, std.eq x x = true := fun x => by simp
    have tt : std.and true true = true := rfl
    rcases h with ⟨rfl, rfl, hcl, hk⟩ | ⟨rfl, hk⟩
    · cases hL : last puts (i : Int) with
      | none =>
        have hn := put_none hi hL
        simp only [laws_FnCommits_l2, e1, bt, (Last_val puts hpl _ _).1, hL, Option.isSome_none, Option.getD_none, i1, i2, eqq, bf, bif_not, vget_nat, hk.other i hi hn, a3, tt, eqq, bt, add1 (i := i) (by omega)]
      | some w =>
        obtain ⟨t, ht, hc, hv⟩ := put_some hi hL
        have v0 : fld l2 i 0 = w := by have := hk.val t ht; rw [if_pos ht, hc, hv] at this; exact this
        have v1 : fld l2 i 1 = cl + 1 := by have := hk.ver t ht; rw [if_pos ht, hc] at this; exact this
        have v2 : fld l2 i 2 = 0 := by have := hk.own t ht; rw [if_pos ht, hc] at this; exact this
        simp only [laws_FnCommits_l2, e1, bt, (Last_val puts hpl _ _).1, hL, Option.isSome_some, Option.getD_some, i1, i2, eqq, bf, bif_not, vget_nat, v0, v1, v2, a3, tt, eqq, bt, add1 (i := i) (by omega)]
    · have e86 : std.eq 8 6 = false := rfl
      have no : ¬ locked (net puts) 0 i := fun ⟨j, hj, _⟩ => by omega
      cases hL : last puts (i : Int) with
      | none => simp only [laws_FnCommits_l2, e1, bt, (Last_val puts hpl _ _).1, hL, Option.isSome_none, Option.getD_none, i1, i2, e86, bf, bif_not, vget_nat, hk.val i hi, hk.ver i hi, hk.other i hi no, a3, tt, eqq, bt, add1 (i := i) (by omega)]
      | some w => simp only [laws_FnCommits_l2, e1, bt, (Last_val puts hpl _ _).1, hL, Option.isSome_some, Option.getD_some, i1, i2, e86, bf, bif_not, vget_nat, hk.val i hi, hk.ver i hi, hk.other i hi no, a3, tt, eqq, bt, add1 (i := i) (by omega)]
  · have e1 : std.lt ((8 : Nat) : Int) (std.vlen l2) = false := by rw [std_vlen, hg.1]; exact lt_nat_f (Nat.le_refl _)
    simp only [laws_FnCommits_l2, e1, bf]
theorem FnCommits_true (code : List Int) (f : FitArr cx (.ints 5 .u8 code)) (k : Bool → R) : laws_FnCommits std code k = k true := by
  unfold laws_FnCommits laws_FnCommits_f
  have bigv : ∀ k : Bool → R, laws_big std code k = k (std.lt 1048576 (std.ilen code)) := fun k => rfl
  simp only [bigv]
  by_cases hbig : 1048576 < code.length
  · have e : std.lt 1048576 (std.ilen code) = true := by rw [std_lt, std_ilen]; exact decide_eq_true (by omega)
    simp only [e, bt]
  · have e : std.lt 1048576 (std.ilen code) = false := by rw [std_lt, std_ilen]; exact decide_eq_false (by omega)
    obtain ⟨cl, l, who, rv, ph, pos, wv, puts0, reads0, hl8, hw, hp0, hr0, hd⟩ := DrawCommitStep_dr code (by omega)
    obtain ⟨x1, x2, puts, reads, hp, hr, -, -, hd2⟩ := DrawCommitNew_dr code (by omega)
    have hl2 : l.length ≤ 2147483648 := by omega
    have cn2 := fun k => (CommitNew_val 9 cl puts reads (by omega) (by omega) k).2
    simp only [e, bf, hd, hd2, cn2, Cm.k, bif_not, (RowsOk_val puts (by omega) _).1, (RowsOk_val reads (by omega) _).1, (MemOk_val cl l hl2 _).1]
    cases hnew : (commitNew 9 cl puts reads).2
    · simp only [bf]
      cases h1 : rowsOk puts
      · rfl
      · cases h2 : rowsOk reads
        · rfl
        · have hm : memOk cl l = false := by
            unfold commitNew at hnew
            unfold memOk
            rw [h1, h2] at hnew
            cases hc : inB cl 0 1000000
            · simp
            · rw [hc] at hnew; cases hnew
          simp only [bt, hm]; rfl
    · simp only [bt]
      cases hm : memOk cl l
      · simp only [bf]
        cases rowsOk puts
        · rfl
        · cases rowsOk reads <;> rfl
      · have hg0 : GoodM 8 l := ⟨(memOk_spec hm).1, hw⟩
        obtain ⟨hb, n, p, hn, hc0, hst⟩ := new_st hm hw hnew
        have e40 : std.lt 40 (n : Int) = false := by rw [std_lt]; exact decide_eq_false (by omega)
        generalize hN : std.fuel = N
        have hN : 4294967296 = N := hN
        obtain ⟨cl2, l2, ph2, pos2, wv2, hz, lp⟩ := Commits_l0 hb hm hg0 puts n hn who rv ph pos wv puts0 reads0 n N 0 n cl l p 0 0 (by omega) (by omega) (Nat.le_refl _) hst
        have lp' := lp
        rw [show (((0 : Nat) : Int)) = 0 from rfl] at lp'
        have hg := (hz.ok hb hm).2.2
        have hend := hz.zero rfl
        have ev : std.eq (std.vlen l2) (std.vlen l) = true := by rw [std_vlen, std_vlen, hg.1, hg0.1]; rfl
        have e8 : std.eq (std.vlen l2) 8 = true := by rw [std_vlen, hg.1]; rfl
        simp only [hc0, bt, hst.left hb hm, e40, bf, lp', ev]
        have lp2 := fun kret kx => Commits_l2 (reads := reads) hm hg0 (show puts.length ≤ 2147483648 by omega) N (by omega) who rv ph pos wv puts0 reads0 9 cl ph2 pos2 wv2 (net puts) (cellsOf (net reads)) cl2 l2 hg hend kret kx
        simp only [lp2, e8, bt]
        obtain ⟨r, hr2⟩ := CommitLeft_eq who rv ph pos wv puts0 reads0 (by omega) (by omega)
        have eqq : ∀ x : Int, std.eq x x = true := fun x => by simp
        have fin : ∀ kk : R, (bif commitOk who rv ph pos wv puts0 reads0 then k (std.eq r r) else k true) = kk → k true = kk := fun kk h => by
          rw [← h, eqq]; cases commitOk who rv ph pos wv puts0 reads0 <;> rfl
        rcases hend with ⟨rfl, rfl, hcl, -⟩ | ⟨rfl, -⟩
        · have ea : std.add .i64 cl 1 = cl + 1 := by rw [std_add]; exact i64_wrap (by have := hb.clock; omega) (by omega)
          simp only [eqq, bt, ea, (CommitOk_val who rv ph pos wv puts0 reads0 (by omega) (by omega) _).1, (hr2 _).1, (hr2 _).2]
          cases commitOk who rv ph pos wv puts0 reads0 <;> rfl
        · have e86 : std.eq 8 6 = false := rfl
          simp only [e86, eqq, bt, bf, (CommitOk_val who rv ph pos wv puts0 reads0 (by omega) (by omega) _).1, (hr2 _).1, (hr2 _).2]
          cases commitOk who rv ph pos wv puts0 reads0 <;> rfl
end X
