/- Models of the functions, or plain laws about them; each theorem states its own conditions. -/
import Derived.Test.YtnkgcegeinemjaaQC3
set_option linter.unusedVariables false
set_option linter.unusedSimpArgs false
open Go.Proofs
namespace X
open PM Go

theorem at_val (code : List Int) (f : FitArr cx (.ints 5 .u8 code)) : ∃ x : Nat, ∀ k : Int → R, laws_at std code 0 k = k (x : Int) := by
  unfold laws_at laws_at_f
  cases code with
  | nil => exact ⟨0, fun k => rfl⟩
  | cons y code =>
    have hy := f.2 y (by simp)
    have e1 : std.lt 0 (std.ilen (y :: code)) = true := by rw [std_lt, std_ilen]; exact decide_eq_true (by rw [List.length_cons]; omega)
    have e2 : std.inb 0 (std.ilen (y :: code)) = true := by rw [std_inb, std_ilen]; exact decide_eq_true ⟨Int.le_refl _, by rw [List.length_cons]; omega⟩
    have h0 : 0 ≤ y := hy.1
    have h1 : y ≤ 255 := hy.2
    have e3 : std.wrap .i64 (std.iget (y :: code) 0) = (y.toNat : Int) := by
      show IntKind.i64.wrap y = _
      rw [i64_wrap (by omega) (by omega)]; omega
    refine ⟨y.toNat, fun k => ?_⟩
    rw [e1, e2, e3]
    rfl
theorem FnBroken_true (code : List Int) (f : FitArr cx (.ints 5 .u8 code)) (k : Bool → R) : laws_FnBroken std code k = k true := by
  unfold laws_FnBroken laws_FnBroken_f
  have bigv : ∀ k : Bool → R, laws_big std code k = k (std.lt 1048576 (std.ilen code)) := fun k => rfl
  simp only [bigv]
  by_cases hbig : 1048576 < code.length
  · have e : std.lt 1048576 (std.ilen code) = true := by rw [std_lt, std_ilen]; exact decide_eq_true (by omega)
    simp only [e, bt]
  · have e : std.lt 1048576 (std.ilen code) = false := by rw [std_lt, std_ilen]; exact decide_eq_false (by omega)
    obtain ⟨cl, l, who, rv, ph, pos, wv, puts0, reads0, hl8, hw, -, -, hd⟩ := DrawCommitStep_dr code (by omega)
    obtain ⟨x1, x2, puts, reads, hp, hr, -, -, hd2⟩ := DrawCommitNew_dr code (by omega)
    have hl2 : l.length ≤ 2147483648 := by omega
    have cn := fun k => (CommitNew_val 9 cl puts reads (by omega) (by omega) k).1
    have cn2 := fun k => (CommitNew_val 9 cl puts reads (by omega) (by omega) k).2
    simp only [e, bf, hd, hd2, cn, cn2, Cm.k]
    have ebb : ∀ x : Bool, std.beq x x = true := fun x => by cases x <;> rfl
    simp only [ebb, bif_not, bt]
    cases hnew : (commitNew 9 cl puts reads).2
    · simp only [bf]
    · simp only [bt, (MemOk_val cl l hl2 _).1]
      cases hm : memOk cl l
      · simp only [bf]
      · obtain ⟨hb, hrun⟩ := new_run hm hw hnew
        obtain ⟨y, hy⟩ := at_val code f
        have e9 : std.nz 9 = true := rfl
        have e3 : std.rem .i64 (y : Int) 9 = ((y % 9 : Nat) : Int) := by
          rw [std_rem]
          exact (Int.ofNat_tmod y 9).symm
        generalize (commitNew 9 cl puts reads).1 = c0 at hrun
        generalize hN : std.fuel = N
        have hN : 4294967296 = N := hN
        obtain ⟨cl2, l2, c2, hrun2, lp⟩ := Broken_l0 hb hm cl l (y % 9) N cl l c0 (by omega) (by omega) hrun
        obtain ⟨hg2, hs2, hcase⟩ := hrun2
        have hs2' := hs2
        obtain ⟨s1, s2, -⟩ := hs2'
        have cb := fun k => (CommitBreak_val c2 (by omega) (by omega) k).2
        simp only [bt, hy, e9, e3, lp, cb, Cm.k]
        have eqq : ∀ x : Int, std.eq x x = true := fun x => by simp
        rcases hcase with hlate | ⟨ph', pos', wv', t, rfl, hok, hcl, hk, hp'⟩
        · have el : std.le c2.ph 3 = false := by rw [std_le]; exact decide_eq_false (by omega)
          simp only [break_late hlate, el, ebb, bf, bt, eqq]
        · obtain ⟨-, -, hwv, -, -, -, -, -⟩ := commitOk_spec hok
          have ht : t ≤ (net puts).length := by rcases hp' with ⟨-, -, h⟩ | ⟨-, h⟩ <;> omega
          have h3 : ph' ≤ 3 := by rcases hp' with ⟨h, -⟩ | ⟨h | h, -⟩ <;> omega
          have hbr : commitBreak (⟨9, cl, ph', pos', wv', net puts, cellsOf (net reads)⟩ : Cm) = ((⟨9, cl, ph', pos', wv', net puts, cellsOf (net reads)⟩ : Cm).back t, true) := by
            unfold commitBreak
            simp only [hok, cond_true]
            rcases hp' with ⟨rfl, rfl, -⟩ | ⟨h, rfl⟩
            · rfl
            · rw [show (ph' == 1) = false from beq_eq_false_iff_ne.2 (by omega), decide_eq_true h3]; rfl
          have hu := Undo.of_back (ph := ph') (pos := pos') hb (left := 9) hcl hwv ht (by have := hb.len; omega) hk
          have el : std.le ph' 3 = true := by rw [std_le]; exact decide_eq_true h3
          simp only [hbr, el, ebb, bt]
          generalize (⟨9, cl, ph', pos', wv', net puts, cellsOf (net reads)⟩ : Cm).back t = d at hu
          obtain ⟨cl3, l3, c3, hu3, lp2⟩ := Broken_l2 hb hm cl l 9 N 0 cl2 l2 d (by omega) (by omega) hu
          have lp2' := lp2
          rw [show (((0 : Nat) : Int)) = 0 from rfl] at lp2'
          simp only [lp2']
          have hg := hu3.good
          obtain ⟨-, -, hend⟩ := hu3
          rcases hend with ⟨h8, hk3⟩ | ⟨_, _, -, -, -, h, -⟩
          · have hl := (memOk_spec hm).1
            have no : ∀ j, ¬ locked (net puts) 0 j := fun j ⟨i, hi, _⟩ => by omega
            have ev : std.eq (std.vlen l3) (std.vlen l) = true := by rw [std_vlen, std_vlen, hg.1, hl]; rfl
            have lp4 : ∀ (kret : Bool → R) kx, laws_FnBroken_l4 std (spec_MemOk std) (spec_CommitNew std) (impl_CommitNew std) (impl_CommitBreak std) (impl_CommitStep std) (laws_big std) (spec_DrawCommitStep std) (spec_DrawCommitNew std) (laws_at std) N 0 cl l cl3 l3 c3.who c3.rv c3.ph c3.pos c3.wv c3.puts c3.reads kret kx = kx cl3 l3 c3.who c3.rv c3.ph c3.pos c3.wv c3.puts c3.reads := by
              intro kret kx
              have h := loop_all0 (p := fun _ => true) (len := 8) (F := fun n i => laws_FnBroken_l4 std (spec_MemOk std) (spec_CommitNew std) (impl_CommitNew std) (impl_CommitBreak std) (impl_CommitStep std) (laws_big std) (spec_DrawCommitStep std) (spec_DrawCommitNew std) (laws_at std) n i cl l cl3 l3 c3.who c3.rv c3.ph c3.pos c3.wv c3.puts c3.reads kret kx) (yes := kx cl3 l3 c3.who c3.rv c3.ph c3.pos c3.wv c3.puts c3.reads) (no := none) (N := N) (by omega) (fun n i hi => ?_) (fun n => ?_)
              · exact h
              · have e1 : std.lt (i : Int) (std.vlen l3) = true := by rw [std_vlen, hg.1]; exact lt_nat_t hi
                have i1 : std.inb (i : Int) (std.vlen l3) = true := by rw [std_vlen, hg.1]; exact inb_nat_t hi
                have i2 : std.inb (i : Int) (std.vlen l) = true := by rw [std_vlen, hl]; exact inb_nat_t hi
                have a3 : ∀ x y z : Int, std.not (std.and (std.eq x x) (std.and (std.eq y y) (std.eq z z))) = false := fun x y z => by simp
                simp only [laws_FnBroken_l4, e1, i1, i2, bt, vget_nat, hk3.val i hi, hk3.ver i hi, hk3.other i hi (no i), a3, bf, add1 (i := i) (by omega)]
              · have e1 : std.lt ((8 : Nat) : Int) (std.vlen l3) = false := by rw [std_vlen, hg.1]; exact lt_nat_f (Nat.le_refl _)
                simp only [laws_FnBroken_l4, e1, bf]
            have e8 : std.eq (std.vlen l3) 8 = true := by rw [std_vlen, hg.1]; rfl
            simp only [ev, bt, lp4]
            simp only [h8, eqq, bt, e8]
          · omega
end X
