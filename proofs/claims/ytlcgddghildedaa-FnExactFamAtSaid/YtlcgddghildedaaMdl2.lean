/- Models of the functions, or plain laws about them; each theorem states its own conditions. -/
import Derived.Test.YtlcgddghildedaaMdlA
import Derived.Test.YtlcgddghildedaaL3
import Derived.Test.YtlcgddghildedaaMKE
import Derived.Test.YtlcgddghildedaaProg
import Derived.KernelRfl
set_option linter.unusedVariables false
set_option linter.unusedSimpArgs false
open Go.Proofs
namespace X
open PM
set_option maxRecDepth 100000
set_option maxHeartbeats 4000000
abbrev laws_eqKidMarkS_T := (List (List PM.C)) → (List (List PM.C)) → ((Bool) → PM.R) → PM.R
noncomputable def laws_eqKidMarkS_w (c : laws_eqKidMarkS_T) (ds : List PM.V) (k : PM.V → PM.R) : PM.R :=
  match ds with
  | [.arr (.rows 368 a), .arr (.rows 368 b)] => c a b (fun r0 => k (.bool r0))
  | _ => none
noncomputable def laws_eqKidMarkS_l0 (A : PM.Prims) (c_314 : laws_eqKidMark_T) : Nat → (List (List C)) → (List (List C)) → (Int) → ((Bool) → PM.R) → (Unit → PM.R) → PM.R
  | 0, _, _, _, _, _ => none
  | n + 1, a1, b2, i3, kret_0, kx0_0 =>
    bif (A.lt i3 (A.rlen a1)) then
      bif (A.inb i3 (A.rlen a1)) then
        bif (A.inb i3 (A.rlen b2)) then
          c_314 (A.rint a1 i3 0) (A.rint a1 i3 1) (A.rsi a1 i3 2) (A.rint b2 i3 0) (A.rint b2 i3 1) (A.rsi b2 i3 2) (fun r4 =>
            bif (A.not r4) then
              kret_0 false
            else
              laws_eqKidMarkS_l0 A c_314 n a1 b2 (A.add .i64 i3 1) kret_0 kx0_0)
        else
          none
      else
        none
    else
      kx0_0 ()
noncomputable def laws_eqKidMarkS_f (A : PM.Prims) (c_314 : laws_eqKidMark_T) (a : List (List PM.C)) (b : List (List PM.C)) (k : (Bool) → PM.R) : PM.R :=
  bif (A.not (A.eq (A.rlen a) (A.rlen b))) then
    k false
  else
    laws_eqKidMarkS_l0 A c_314 A.fuel a b 0 (fun t456 =>
      k t456) (fun _ =>
      k true)
noncomputable def laws_eqKidMarkS (A : PM.Prims) : laws_eqKidMarkS_T := laws_eqKidMarkS_f A (laws_eqKidMark A)
noncomputable def laws_eqKidMarkS_L (A : PM.Prims) (c_314 : laws_eqKidMark_T) (n : Nat) : PM.Lam := fun cur σ K =>
  match cur, σ, K with
  | 0, ⟨[(0, .arr (.rows 368 a1)), (1, .arr (.rows 368 b2)), (5, .int .i64 i3)], []⟩, K => laws_eqKidMarkS_l0 A c_314 n a1 b2 i3 (fun t45 => K .ret ⟨[(4, .bool t45)], []⟩) (fun _ => K (.exit 0) ⟨[], []⟩)
  | _, _, _ => none
noncomputable def laws_eqKidMarkS_E (A : PM.Prims) (c_314 : laws_eqKidMark_T) : PM.Env := ⟨[(314, ⟨[], laws_eqKidMark_w c_314, none⟩)], [], [(0, [0, 1, 5], [4])], [(0, [0, 1]), (1, [0, 1, 10]), (2, [4]), (3, [0, 1, 5]), (4, [0, 1, 5, 14]), (5, [0, 1, 5]), (6, [0, 1, 5, 26]), (7, [4]), (8, [4])], laws_eqKidMarkS_L A c_314 A.fuel⟩
theorem laws_eqKidMarkS_l0_ok (A : PM.Prims) (c_314 : laws_eqKidMark_T) (n : Nat) (a1 : List (List C)) (b2 : List (List C)) (i3 : Int) (K : Go.Exit → PM.S → PM.R) : laws_eqKidMarkS_L A c_314 (n + 1) 0 ⟨[(0, .arr (.rows 368 a1)), (1, .arr (.rows 368 b2)), (5, .int .i64 i3)], []⟩ K = PM.roundF A cx (PM.runD A cx (laws_eqKidMarkS_E A c_314).inl (laws_eqKidMarkS_E A c_314).Γ 3) (laws_eqKidMarkS_E A c_314) (laws_eqKidMarkS_L A c_314 n) 0 Go.Proofs.Try.f278 ⟨[(0, .arr (.rows 368 a1)), (1, .arr (.rows 368 b2)), (5, .int .i64 i3)], []⟩ K := by kernel_rfl
theorem laws_eqKidMarkS_ok (A : PM.Prims) (c_314 : laws_eqKidMark_T) (a : List (List PM.C)) (b : List (List PM.C)) (k : PM.V → PM.R) : PM.pfun A cx [] (laws_eqKidMarkS_E A c_314) Go.Proofs.Try.f278 [.arr (.rows 368 a), .arr (.rows 368 b)] k = laws_eqKidMarkS_f A c_314 a b (fun r0 => k (.bool r0)) := by kernel_rfl

theorem laws_eqKidMarkS_fn : PM.FnIs Try.prog 278 Try.f278 := .of Try.func278 (by kernel_rfl) (by kernel_rfl)
theorem laws_eqKidMarkS_g : PM.GOk Try.prog cx 278 ⟨[], laws_eqKidMarkS_w (laws_eqKidMarkS PM.std), none⟩ := by
  refine ⟨laws_eqKidMarkS_fn.enter, fun _ ds k r h => ?_, fun hm => absurd rfl hm, fun _ e => (by cases e)⟩
  change laws_eqKidMarkS_w (laws_eqKidMarkS PM.std) ds k = some r at h
  unfold laws_eqKidMarkS_w at h
  split at h
  · exact PM.pfun_ok (E := laws_eqKidMarkS_E PM.std (laws_eqKidMark PM.std)) (L := fun n => laws_eqKidMarkS_L PM.std (laws_eqKidMark PM.std) n) (N := PM.std.fuel) cx_ok (.cons laws_eqKidMark_g .nil) mixed .nil laws_eqKidMarkS_fn (by kernel_rfl) ⟨rfl, fun cur σ K => by
      dsimp only [laws_eqKidMarkS_L]
      split <;> rfl, fun n cur σ K r h => by
      dsimp only [laws_eqKidMarkS_L] at h
      split at h
      · exact (laws_eqKidMarkS_l0_ok PM.std (laws_eqKidMark PM.std) n _ _ _ K).symm.trans h
      · cases h⟩
      ((laws_eqKidMarkS_ok PM.std (laws_eqKidMark PM.std) _ _ k).trans h)
  · cases h

abbrev laws_eqProbe_T := (Int) → (Int) → (Int) → (Int) → (Int) → (Int) → (Int) → (Int) → ((Bool) → PM.R) → PM.R
noncomputable def laws_eqProbe_w (c : laws_eqProbe_T) (ds : List PM.V) (k : PM.V → PM.R) : PM.R :=
  match ds with
  | [.agg [.int .i64 a_Cell, .int .i64 a_Phase, .int .i64 a_Ver, .int .i64 a_Val], .agg [.int .i64 b_Cell, .int .i64 b_Phase, .int .i64 b_Ver, .int .i64 b_Val]] => c a_Cell a_Phase a_Ver a_Val b_Cell b_Phase b_Ver b_Val (fun r0 => k (.bool r0))
  | _ => none
noncomputable def laws_eqProbe_f (A : PM.Prims) (a_Cell : Int) (a_Phase : Int) (a_Ver : Int) (a_Val : Int) (b_Cell : Int) (b_Phase : Int) (b_Ver : Int) (b_Val : Int) (k : (Bool) → PM.R) : PM.R :=
  bif (A.not (A.eq a_Cell b_Cell)) then
    k false
  else
    bif (A.not (A.eq a_Phase b_Phase)) then
      k false
    else
      bif (A.not (A.eq a_Ver b_Ver)) then
        k false
      else
        bif (A.not (A.eq a_Val b_Val)) then
          k false
        else
          k true
noncomputable def laws_eqProbe (A : PM.Prims) : laws_eqProbe_T := laws_eqProbe_f A
noncomputable def laws_eqProbe_L (A : PM.Prims) (n : Nat) : PM.Lam := fun cur σ K =>
  match cur, σ, K with
  | _, _, _ => none
noncomputable def laws_eqProbe_E (A : PM.Prims) : PM.Env := ⟨[], [], [], [(0, [2, 3]), (1, [2, 3, 9]), (2, [4]), (3, [2, 3, 14]), (4, [4]), (5, [2, 3, 19]), (6, [4]), (7, [24]), (8, [4]), (9, [4])], laws_eqProbe_L A A.fuel⟩
theorem laws_eqProbe_ok (A : PM.Prims) (a_Cell : Int) (a_Phase : Int) (a_Ver : Int) (a_Val : Int) (b_Cell : Int) (b_Phase : Int) (b_Ver : Int) (b_Val : Int) (k : PM.V → PM.R) : PM.pfun A cx [] (laws_eqProbe_E A) Go.Proofs.Try.f274 [.agg [.int .i64 a_Cell, .int .i64 a_Phase, .int .i64 a_Ver, .int .i64 a_Val], .agg [.int .i64 b_Cell, .int .i64 b_Phase, .int .i64 b_Ver, .int .i64 b_Val]] k = laws_eqProbe_f A a_Cell a_Phase a_Ver a_Val b_Cell b_Phase b_Ver b_Val (fun r0 => k (.bool r0)) := by kernel_rfl

theorem laws_eqProbe_fn : PM.FnIs Try.prog 274 Try.f274 := .of Try.func274 (by kernel_rfl) (by kernel_rfl)
theorem laws_eqProbe_g : PM.GOk Try.prog cx 274 ⟨[], laws_eqProbe_w (laws_eqProbe PM.std), none⟩ := by
  refine ⟨laws_eqProbe_fn.enter, fun _ ds k r h => ?_, fun hm => absurd rfl hm, fun _ e => (by cases e)⟩
  change laws_eqProbe_w (laws_eqProbe PM.std) ds k = some r at h
  unfold laws_eqProbe_w at h
  split at h
  · exact PM.pfun_ok (E := laws_eqProbe_E PM.std) (L := fun n => laws_eqProbe_L PM.std n) (N := PM.std.fuel) cx_ok .nil mixed .nil laws_eqProbe_fn (by kernel_rfl) ⟨rfl, fun _ _ _ => rfl, fun n cur σ K r h => by cases h⟩
      ((laws_eqProbe_ok PM.std _ _ _ _ _ _ _ _ k).trans h)
  · cases h

abbrev laws_eqKidRun_T := (Int) → (Int) → (Int) → (Int) → (Int) → (Int) → (List Int) → (List (List Int)) → (List (List Int)) → (List (List PM.C)) → (Bool) → (Int) → (Int) → (Int) → (Int) → (Int) → (Int) → (Int) → (Int) → (Int) → (Int) → (List Int) → (List (List Int)) → (List (List Int)) → (List (List PM.C)) → (Bool) → (Int) → (Int) → (Int) → (Int) → ((Bool) → PM.R) → PM.R
noncomputable def laws_eqKidRun_w (c : laws_eqKidRun_T) (ds : List PM.V) (k : PM.V → PM.R) : PM.R :=
  match ds with
  | [.agg [.int .i64 ___Phase, .int .i64 ___Pc, .int .i64 ___Since, .int .i64 ___Tries, .int .i64 ___At, .int .i64 ___Out, .arr (.ints 3 .i64 ___Regs), .arr (.vecs 225 3 ___Seen), .arr (.vecs 161 2 ___Writes), .arr (.rows 368 ___Marks), .bool ___Busy, .int .i64 ___Probe_Cell, .int .i64 ___Probe_Phase, .int .i64 ___Probe_Ver, .int .i64 ___Probe_Val], .agg [.int .i64 a_Phase, .int .i64 a_Pc, .int .i64 a_Since, .int .i64 a_Tries, .int .i64 a_At, .int .i64 a_Out, .arr (.ints 3 .i64 a_Regs), .arr (.vecs 225 3 a_Seen), .arr (.vecs 161 2 a_Writes), .arr (.rows 368 a_Marks), .bool a_Busy, .int .i64 a_Probe_Cell, .int .i64 a_Probe_Phase, .int .i64 a_Probe_Ver, .int .i64 a_Probe_Val]] => c ___Phase ___Pc ___Since ___Tries ___At ___Out ___Regs ___Seen ___Writes ___Marks ___Busy ___Probe_Cell ___Probe_Phase ___Probe_Ver ___Probe_Val a_Phase a_Pc a_Since a_Tries a_At a_Out a_Regs a_Seen a_Writes a_Marks a_Busy a_Probe_Cell a_Probe_Phase a_Probe_Ver a_Probe_Val (fun r0 => k (.bool r0))
  | _ => none
noncomputable def laws_eqKidRun_f (A : PM.Prims) (c_40 : laws_eqIntS_T) (c_66 : laws_eqRowS_T) (c_274 : laws_eqProbe_T) (c_155 : laws_eqEntryS_T) (c_278 : laws_eqKidMarkS_T) (___Phase : Int) (___Pc : Int) (___Since : Int) (___Tries : Int) (___At : Int) (___Out : Int) (___Regs : List Int) (___Seen : List (List Int)) (___Writes : List (List Int)) (___Marks : List (List PM.C)) (___Busy : Bool) (___Probe_Cell : Int) (___Probe_Phase : Int) (___Probe_Ver : Int) (___Probe_Val : Int) (a_Phase : Int) (a_Pc : Int) (a_Since : Int) (a_Tries : Int) (a_At : Int) (a_Out : Int) (a_Regs : List Int) (a_Seen : List (List Int)) (a_Writes : List (List Int)) (a_Marks : List (List PM.C)) (a_Busy : Bool) (a_Probe_Cell : Int) (a_Probe_Phase : Int) (a_Probe_Ver : Int) (a_Probe_Val : Int) (k : (Bool) → PM.R) : PM.R :=
  bif (A.not (A.eq ___Phase a_Phase)) then
    k false
  else
    bif (A.not (A.eq ___Pc a_Pc)) then
      k false
    else
      bif (A.not (A.eq ___Since a_Since)) then
        k false
      else
        bif (A.not (A.eq ___Tries a_Tries)) then
          k false
        else
          bif (A.not (A.eq ___At a_At)) then
            k false
          else
            bif (A.not (A.eq ___Out a_Out)) then
              k false
            else
              c_40 ___Regs a_Regs (fun r1 =>
                bif (A.not r1) then
                  k false
                else
                  c_155 ___Seen a_Seen (fun r2 =>
                    bif (A.not r2) then
                      k false
                    else
                      c_66 ___Writes a_Writes (fun r3 =>
                        bif (A.not r3) then
                          k false
                        else
                          c_278 ___Marks a_Marks (fun r4 =>
                            bif (A.not r4) then
                              k false
                            else
                              bif (A.not (A.beq ___Busy a_Busy)) then
                                k false
                              else
                                c_274 ___Probe_Cell ___Probe_Phase ___Probe_Ver ___Probe_Val a_Probe_Cell a_Probe_Phase a_Probe_Ver a_Probe_Val (fun r5 =>
                                  bif (A.not r5) then
                                    k false
                                  else
                                    k true)))))
noncomputable def laws_eqKidRun (A : PM.Prims) : laws_eqKidRun_T := laws_eqKidRun_f A (laws_eqIntS A) (laws_eqRowS A) (laws_eqProbe A) (laws_eqEntryS A) (laws_eqKidMarkS A)
noncomputable def laws_eqKidRun_L (A : PM.Prims) (c_40 : laws_eqIntS_T) (c_66 : laws_eqRowS_T) (c_274 : laws_eqProbe_T) (c_155 : laws_eqEntryS_T) (c_278 : laws_eqKidMarkS_T) (n : Nat) : PM.Lam := fun cur σ K =>
  match cur, σ, K with
  | _, _, _ => none
noncomputable def laws_eqKidRun_E (A : PM.Prims) (c_40 : laws_eqIntS_T) (c_66 : laws_eqRowS_T) (c_274 : laws_eqProbe_T) (c_155 : laws_eqEntryS_T) (c_278 : laws_eqKidMarkS_T) : PM.Env := ⟨[(40, ⟨[], laws_eqIntS_w c_40, none⟩), (66, ⟨[], laws_eqRowS_w c_66, none⟩), (274, ⟨[], laws_eqProbe_w c_274, none⟩), (155, ⟨[], laws_eqEntryS_w c_155, none⟩), (278, ⟨[], laws_eqKidMarkS_w c_278, none⟩)], [], [], [(0, [2, 3]), (1, [2, 3, 9]), (2, [4]), (3, [2, 3, 14]), (4, [4]), (5, [2, 3, 19]), (6, [4]), (7, [2, 3, 24]), (8, [4]), (9, [2, 3, 29]), (10, [4]), (11, [2, 3, 34]), (12, [4]), (13, [2, 3, 40]), (14, [4]), (15, [2, 3, 46]), (16, [4]), (17, [2, 3, 52]), (18, [4]), (19, [2, 3, 58]), (20, [4]), (21, [2, 3, 63]), (22, [4]), (23, [69]), (24, [4]), (25, [4])], laws_eqKidRun_L A c_40 c_66 c_274 c_155 c_278 A.fuel⟩
theorem laws_eqKidRun_ok (A : PM.Prims) (c_40 : laws_eqIntS_T) (c_66 : laws_eqRowS_T) (c_274 : laws_eqProbe_T) (c_155 : laws_eqEntryS_T) (c_278 : laws_eqKidMarkS_T) (___Phase : Int) (___Pc : Int) (___Since : Int) (___Tries : Int) (___At : Int) (___Out : Int) (___Regs : List Int) (___Seen : List (List Int)) (___Writes : List (List Int)) (___Marks : List (List PM.C)) (___Busy : Bool) (___Probe_Cell : Int) (___Probe_Phase : Int) (___Probe_Ver : Int) (___Probe_Val : Int) (a_Phase : Int) (a_Pc : Int) (a_Since : Int) (a_Tries : Int) (a_At : Int) (a_Out : Int) (a_Regs : List Int) (a_Seen : List (List Int)) (a_Writes : List (List Int)) (a_Marks : List (List PM.C)) (a_Busy : Bool) (a_Probe_Cell : Int) (a_Probe_Phase : Int) (a_Probe_Ver : Int) (a_Probe_Val : Int) (k : PM.V → PM.R) : PM.pfun A cx [] (laws_eqKidRun_E A c_40 c_66 c_274 c_155 c_278) Go.Proofs.Try.f219 [.agg [.int .i64 ___Phase, .int .i64 ___Pc, .int .i64 ___Since, .int .i64 ___Tries, .int .i64 ___At, .int .i64 ___Out, .arr (.ints 3 .i64 ___Regs), .arr (.vecs 225 3 ___Seen), .arr (.vecs 161 2 ___Writes), .arr (.rows 368 ___Marks), .bool ___Busy, .int .i64 ___Probe_Cell, .int .i64 ___Probe_Phase, .int .i64 ___Probe_Ver, .int .i64 ___Probe_Val], .agg [.int .i64 a_Phase, .int .i64 a_Pc, .int .i64 a_Since, .int .i64 a_Tries, .int .i64 a_At, .int .i64 a_Out, .arr (.ints 3 .i64 a_Regs), .arr (.vecs 225 3 a_Seen), .arr (.vecs 161 2 a_Writes), .arr (.rows 368 a_Marks), .bool a_Busy, .int .i64 a_Probe_Cell, .int .i64 a_Probe_Phase, .int .i64 a_Probe_Ver, .int .i64 a_Probe_Val]] k = laws_eqKidRun_f A c_40 c_66 c_274 c_155 c_278 ___Phase ___Pc ___Since ___Tries ___At ___Out ___Regs ___Seen ___Writes ___Marks ___Busy ___Probe_Cell ___Probe_Phase ___Probe_Ver ___Probe_Val a_Phase a_Pc a_Since a_Tries a_At a_Out a_Regs a_Seen a_Writes a_Marks a_Busy a_Probe_Cell a_Probe_Phase a_Probe_Ver a_Probe_Val (fun r0 => k (.bool r0)) := by kernel_rfl

theorem laws_eqKidRun_fn : PM.FnIs Try.prog 219 Try.f219 := .of Try.func219 (by kernel_rfl) (by kernel_rfl)
theorem laws_eqKidRun_g : PM.GOk Try.prog cx 219 ⟨[], laws_eqKidRun_w (laws_eqKidRun PM.std), none⟩ := by
  refine ⟨laws_eqKidRun_fn.enter, fun _ ds k r h => ?_, fun hm => absurd rfl hm, fun _ e => (by cases e)⟩
  change laws_eqKidRun_w (laws_eqKidRun PM.std) ds k = some r at h
  unfold laws_eqKidRun_w at h
  split at h
  · exact PM.pfun_ok (E := laws_eqKidRun_E PM.std (laws_eqIntS PM.std) (laws_eqRowS PM.std) (laws_eqProbe PM.std) (laws_eqEntryS PM.std) (laws_eqKidMarkS PM.std)) (L := fun n => laws_eqKidRun_L PM.std (laws_eqIntS PM.std) (laws_eqRowS PM.std) (laws_eqProbe PM.std) (laws_eqEntryS PM.std) (laws_eqKidMarkS PM.std) n) (N := PM.std.fuel) cx_ok (.cons laws_eqIntS_g (.cons laws_eqRowS_g (.cons laws_eqProbe_g (.cons laws_eqEntryS_g (.cons laws_eqKidMarkS_g .nil))))) mixed .nil laws_eqKidRun_fn (by kernel_rfl) ⟨rfl, fun _ _ _ => rfl, fun n cur σ K r h => by cases h⟩
      ((laws_eqKidRun_ok PM.std (laws_eqIntS PM.std) (laws_eqRowS PM.std) (laws_eqProbe PM.std) (laws_eqEntryS PM.std) (laws_eqKidMarkS PM.std) _ _ _ _ _ _ _ _ _ _ _ _ _ _ _ _ _ _ _ _ _ _ _ _ _ _ _ _ _ _ k).trans h)
  · cases h

abbrev laws_eqKidRunS_T := (List (List PM.C)) → (List (List PM.C)) → ((Bool) → PM.R) → PM.R
noncomputable def laws_eqKidRunS_w (c : laws_eqKidRunS_T) (ds : List PM.V) (k : PM.V → PM.R) : PM.R :=
  match ds with
  | [.arr (.rows 214 a), .arr (.rows 214 b)] => c a b (fun r0 => k (.bool r0))
  | _ => none
noncomputable def laws_eqKidRunS_l0 (A : PM.Prims) (c_219 : laws_eqKidRun_T) : Nat → (List (List C)) → (List (List C)) → (Int) → ((Bool) → PM.R) → (Unit → PM.R) → PM.R
  | 0, _, _, _, _, _ => none
  | n + 1, a1, b2, i3, kret_0, kx0_0 =>
    bif (A.lt i3 (A.rlen a1)) then
      bif (A.inb i3 (A.rlen a1)) then
        bif (A.inb i3 (A.rlen b2)) then
          c_219 (A.rint a1 i3 0) (A.rint a1 i3 1) (A.rint a1 i3 2) (A.rint a1 i3 3) (A.rint a1 i3 4) (A.rint a1 i3 5) (A.rsi a1 i3 6) (A.rsv 3 a1 i3 7) (A.rsv 2 a1 i3 8) (A.rsr a1 i3 9) (A.rbool a1 i3 10) (A.rint a1 i3 11) (A.rint a1 i3 12) (A.rint a1 i3 13) (A.rint a1 i3 14) (A.rint b2 i3 0) (A.rint b2 i3 1) (A.rint b2 i3 2) (A.rint b2 i3 3) (A.rint b2 i3 4) (A.rint b2 i3 5) (A.rsi b2 i3 6) (A.rsv 3 b2 i3 7) (A.rsv 2 b2 i3 8) (A.rsr b2 i3 9) (A.rbool b2 i3 10) (A.rint b2 i3 11) (A.rint b2 i3 12) (A.rint b2 i3 13) (A.rint b2 i3 14) (fun r4 =>
            bif (A.not r4) then
              kret_0 false
            else
              laws_eqKidRunS_l0 A c_219 n a1 b2 (A.add .i64 i3 1) kret_0 kx0_0)
        else
          none
      else
        none
    else
      kx0_0 ()
noncomputable def laws_eqKidRunS_f (A : PM.Prims) (c_219 : laws_eqKidRun_T) (a : List (List PM.C)) (b : List (List PM.C)) (k : (Bool) → PM.R) : PM.R :=
  bif (A.not (A.eq (A.rlen a) (A.rlen b))) then
    k false
  else
    laws_eqKidRunS_l0 A c_219 A.fuel a b 0 (fun t456 =>
      k t456) (fun _ =>
      k true)
noncomputable def laws_eqKidRunS (A : PM.Prims) : laws_eqKidRunS_T := laws_eqKidRunS_f A (laws_eqKidRun A)
noncomputable def laws_eqKidRunS_L (A : PM.Prims) (c_219 : laws_eqKidRun_T) (n : Nat) : PM.Lam := fun cur σ K =>
  match cur, σ, K with
  | 0, ⟨[(0, .arr (.rows 214 a1)), (1, .arr (.rows 214 b2)), (5, .int .i64 i3)], []⟩, K => laws_eqKidRunS_l0 A c_219 n a1 b2 i3 (fun t45 => K .ret ⟨[(4, .bool t45)], []⟩) (fun _ => K (.exit 0) ⟨[], []⟩)
  | _, _, _ => none
noncomputable def laws_eqKidRunS_E (A : PM.Prims) (c_219 : laws_eqKidRun_T) : PM.Env := ⟨[(219, ⟨[], laws_eqKidRun_w c_219, none⟩)], [], [(0, [0, 1, 5], [4])], [(0, [0, 1]), (1, [0, 1, 10]), (2, [4]), (3, [0, 1, 5]), (4, [0, 1, 5, 14]), (5, [0, 1, 5]), (6, [0, 1, 5, 26]), (7, [4]), (8, [4])], laws_eqKidRunS_L A c_219 A.fuel⟩
theorem laws_eqKidRunS_l0_ok (A : PM.Prims) (c_219 : laws_eqKidRun_T) (n : Nat) (a1 : List (List C)) (b2 : List (List C)) (i3 : Int) (K : Go.Exit → PM.S → PM.R) : laws_eqKidRunS_L A c_219 (n + 1) 0 ⟨[(0, .arr (.rows 214 a1)), (1, .arr (.rows 214 b2)), (5, .int .i64 i3)], []⟩ K = PM.roundF A cx (PM.runD A cx (laws_eqKidRunS_E A c_219).inl (laws_eqKidRunS_E A c_219).Γ 3) (laws_eqKidRunS_E A c_219) (laws_eqKidRunS_L A c_219 n) 0 Go.Proofs.Try.f156 ⟨[(0, .arr (.rows 214 a1)), (1, .arr (.rows 214 b2)), (5, .int .i64 i3)], []⟩ K := by kernel_rfl
theorem laws_eqKidRunS_ok (A : PM.Prims) (c_219 : laws_eqKidRun_T) (a : List (List PM.C)) (b : List (List PM.C)) (k : PM.V → PM.R) : PM.pfun A cx [] (laws_eqKidRunS_E A c_219) Go.Proofs.Try.f156 [.arr (.rows 214 a), .arr (.rows 214 b)] k = laws_eqKidRunS_f A c_219 a b (fun r0 => k (.bool r0)) := by kernel_rfl

theorem laws_eqKidRunS_fn : PM.FnIs Try.prog 156 Try.f156 := .of Try.func156 (by kernel_rfl) (by kernel_rfl)
theorem laws_eqKidRunS_g : PM.GOk Try.prog cx 156 ⟨[], laws_eqKidRunS_w (laws_eqKidRunS PM.std), none⟩ := by
  refine ⟨laws_eqKidRunS_fn.enter, fun _ ds k r h => ?_, fun hm => absurd rfl hm, fun _ e => (by cases e)⟩
  change laws_eqKidRunS_w (laws_eqKidRunS PM.std) ds k = some r at h
  unfold laws_eqKidRunS_w at h
  split at h
  · exact PM.pfun_ok (E := laws_eqKidRunS_E PM.std (laws_eqKidRun PM.std)) (L := fun n => laws_eqKidRunS_L PM.std (laws_eqKidRun PM.std) n) (N := PM.std.fuel) cx_ok (.cons laws_eqKidRun_g .nil) mixed .nil laws_eqKidRunS_fn (by kernel_rfl) ⟨rfl, fun cur σ K => by
      dsimp only [laws_eqKidRunS_L]
      split <;> rfl, fun n cur σ K r h => by
      dsimp only [laws_eqKidRunS_L] at h
      split at h
      · exact (laws_eqKidRunS_l0_ok PM.std (laws_eqKidRun PM.std) n _ _ _ K).symm.trans h
      · cases h⟩
      ((laws_eqKidRunS_ok PM.std (laws_eqKidRun PM.std) _ _ k).trans h)
  · cases h

abbrev laws_eqFamily_T := (Int) → (Int) → (Int) → (Bool) → (List Int) → (List (List Int)) → (List (List Int)) → (List Int) → (List (List Int)) → (List (List PM.C)) → (Int) → (Int) → (Int) → (Bool) → (List Int) → (List (List Int)) → (List (List Int)) → (List Int) → (List (List Int)) → (List (List PM.C)) → ((Bool) → PM.R) → PM.R
noncomputable def laws_eqFamily_w (c : laws_eqFamily_T) (ds : List PM.V) (k : PM.V → PM.R) : PM.R :=
  match ds with
  | [.agg [.int .i64 a_Rv, .int .i64 a_Clock, .int .i64 a_Owner, .bool a_Lost, .arr (.ints 3 .i64 a_Regs), .arr (.vecs 161 2 a_Start), .arr (.vecs 225 3 a_Buf), .arr (.ints 3 .i64 a_Order), .arr (.vecs 161 2 a_Reads), .arr (.rows 214 a_Kids)], .agg [.int .i64 b_Rv, .int .i64 b_Clock, .int .i64 b_Owner, .bool b_Lost, .arr (.ints 3 .i64 b_Regs), .arr (.vecs 161 2 b_Start), .arr (.vecs 225 3 b_Buf), .arr (.ints 3 .i64 b_Order), .arr (.vecs 161 2 b_Reads), .arr (.rows 214 b_Kids)]] => c a_Rv a_Clock a_Owner a_Lost a_Regs a_Start a_Buf a_Order a_Reads a_Kids b_Rv b_Clock b_Owner b_Lost b_Regs b_Start b_Buf b_Order b_Reads b_Kids (fun r0 => k (.bool r0))
  | _ => none
noncomputable def laws_eqFamily_f (A : PM.Prims) (c_40 : laws_eqIntS_T) (c_66 : laws_eqRowS_T) (c_155 : laws_eqEntryS_T) (c_156 : laws_eqKidRunS_T) (a_Rv : Int) (a_Clock : Int) (a_Owner : Int) (a_Lost : Bool) (a_Regs : List Int) (a_Start : List (List Int)) (a_Buf : List (List Int)) (a_Order : List Int) (a_Reads : List (List Int)) (a_Kids : List (List PM.C)) (b_Rv : Int) (b_Clock : Int) (b_Owner : Int) (b_Lost : Bool) (b_Regs : List Int) (b_Start : List (List Int)) (b_Buf : List (List Int)) (b_Order : List Int) (b_Reads : List (List Int)) (b_Kids : List (List PM.C)) (k : (Bool) → PM.R) : PM.R :=
  bif (A.not (A.eq a_Rv b_Rv)) then
    k false
  else
    bif (A.not (A.eq a_Clock b_Clock)) then
      k false
    else
      bif (A.not (A.eq a_Owner b_Owner)) then
        k false
      else
        bif (A.not (A.beq a_Lost b_Lost)) then
          k false
        else
          c_40 a_Regs b_Regs (fun r1 =>
            bif (A.not r1) then
              k false
            else
              c_66 a_Start b_Start (fun r2 =>
                bif (A.not r2) then
                  k false
                else
                  c_155 a_Buf b_Buf (fun r3 =>
                    bif (A.not r3) then
                      k false
                    else
                      c_40 a_Order b_Order (fun r4 =>
                        bif (A.not r4) then
                          k false
                        else
                          c_66 a_Reads b_Reads (fun r5 =>
                            bif (A.not r5) then
                              k false
                            else
                              c_156 a_Kids b_Kids (fun r6 =>
                                bif (A.not r6) then
                                  k false
                                else
                                  k true))))))
noncomputable def laws_eqFamily (A : PM.Prims) : laws_eqFamily_T := laws_eqFamily_f A (laws_eqIntS A) (laws_eqRowS A) (laws_eqEntryS A) (laws_eqKidRunS A)
noncomputable def laws_eqFamily_L (A : PM.Prims) (c_40 : laws_eqIntS_T) (c_66 : laws_eqRowS_T) (c_155 : laws_eqEntryS_T) (c_156 : laws_eqKidRunS_T) (n : Nat) : PM.Lam := fun cur σ K =>
  match cur, σ, K with
  | _, _, _ => none
noncomputable def laws_eqFamily_E (A : PM.Prims) (c_40 : laws_eqIntS_T) (c_66 : laws_eqRowS_T) (c_155 : laws_eqEntryS_T) (c_156 : laws_eqKidRunS_T) : PM.Env := ⟨[(40, ⟨[], laws_eqIntS_w c_40, none⟩), (66, ⟨[], laws_eqRowS_w c_66, none⟩), (155, ⟨[], laws_eqEntryS_w c_155, none⟩), (156, ⟨[], laws_eqKidRunS_w c_156, none⟩)], [], [], [(0, [2, 3]), (1, [2, 3, 9]), (2, [4]), (3, [2, 3, 14]), (4, [4]), (5, [2, 3, 19]), (6, [4]), (7, [2, 3, 24]), (8, [4]), (9, [2, 3, 30]), (10, [4]), (11, [2, 3, 36]), (12, [4]), (13, [2, 3, 42]), (14, [4]), (15, [2, 3, 48]), (16, [4]), (17, [2, 3, 54]), (18, [4]), (19, [60]), (20, [4]), (21, [4])], laws_eqFamily_L A c_40 c_66 c_155 c_156 A.fuel⟩
theorem laws_eqFamily_ok (A : PM.Prims) (c_40 : laws_eqIntS_T) (c_66 : laws_eqRowS_T) (c_155 : laws_eqEntryS_T) (c_156 : laws_eqKidRunS_T) (a_Rv : Int) (a_Clock : Int) (a_Owner : Int) (a_Lost : Bool) (a_Regs : List Int) (a_Start : List (List Int)) (a_Buf : List (List Int)) (a_Order : List Int) (a_Reads : List (List Int)) (a_Kids : List (List PM.C)) (b_Rv : Int) (b_Clock : Int) (b_Owner : Int) (b_Lost : Bool) (b_Regs : List Int) (b_Start : List (List Int)) (b_Buf : List (List Int)) (b_Order : List Int) (b_Reads : List (List Int)) (b_Kids : List (List PM.C)) (k : PM.V → PM.R) : PM.pfun A cx [] (laws_eqFamily_E A c_40 c_66 c_155 c_156) Go.Proofs.Try.f61 [.agg [.int .i64 a_Rv, .int .i64 a_Clock, .int .i64 a_Owner, .bool a_Lost, .arr (.ints 3 .i64 a_Regs), .arr (.vecs 161 2 a_Start), .arr (.vecs 225 3 a_Buf), .arr (.ints 3 .i64 a_Order), .arr (.vecs 161 2 a_Reads), .arr (.rows 214 a_Kids)], .agg [.int .i64 b_Rv, .int .i64 b_Clock, .int .i64 b_Owner, .bool b_Lost, .arr (.ints 3 .i64 b_Regs), .arr (.vecs 161 2 b_Start), .arr (.vecs 225 3 b_Buf), .arr (.ints 3 .i64 b_Order), .arr (.vecs 161 2 b_Reads), .arr (.rows 214 b_Kids)]] k = laws_eqFamily_f A c_40 c_66 c_155 c_156 a_Rv a_Clock a_Owner a_Lost a_Regs a_Start a_Buf a_Order a_Reads a_Kids b_Rv b_Clock b_Owner b_Lost b_Regs b_Start b_Buf b_Order b_Reads b_Kids (fun r0 => k (.bool r0)) := by kernel_rfl

theorem laws_eqFamily_fn : PM.FnIs Try.prog 61 Try.f61 := .of Try.func61 (by kernel_rfl) (by kernel_rfl)
theorem laws_eqFamily_g : PM.GOk Try.prog cx 61 ⟨[], laws_eqFamily_w (laws_eqFamily PM.std), none⟩ := by
  refine ⟨laws_eqFamily_fn.enter, fun _ ds k r h => ?_, fun hm => absurd rfl hm, fun _ e => (by cases e)⟩
  change laws_eqFamily_w (laws_eqFamily PM.std) ds k = some r at h
  unfold laws_eqFamily_w at h
  split at h
  · exact PM.pfun_ok (E := laws_eqFamily_E PM.std (laws_eqIntS PM.std) (laws_eqRowS PM.std) (laws_eqEntryS PM.std) (laws_eqKidRunS PM.std)) (L := fun n => laws_eqFamily_L PM.std (laws_eqIntS PM.std) (laws_eqRowS PM.std) (laws_eqEntryS PM.std) (laws_eqKidRunS PM.std) n) (N := PM.std.fuel) cx_ok (.cons laws_eqIntS_g (.cons laws_eqRowS_g (.cons laws_eqEntryS_g (.cons laws_eqKidRunS_g .nil)))) mixed .nil laws_eqFamily_fn (by kernel_rfl) ⟨rfl, fun _ _ _ => rfl, fun n cur σ K r h => by cases h⟩
      ((laws_eqFamily_ok PM.std (laws_eqIntS PM.std) (laws_eqRowS PM.std) (laws_eqEntryS PM.std) (laws_eqKidRunS PM.std) _ _ _ _ _ _ _ _ _ _ _ _ _ _ _ _ _ _ _ _ k).trans h)
  · cases h

abbrev laws_markRowS_T := (List (List Int)) → (Int) → ((Int) → (List (List Int)) → PM.R) → PM.R
noncomputable def laws_markRowS_w (c : laws_markRowS_T) (ds : List PM.V) (k : PM.V → PM.R) : PM.R :=
  match ds with
  | [.arr (.vecs 161 2 a), .int .i64 k_] => c a k_ (fun r0 o0 => k (.tup [.int .i64 r0, .arr (.vecs 161 2 o0)]))
  | _ => none
noncomputable def laws_markRowS_l0 (A : PM.Prims) : Nat → (Int) → (Int) → (List (List Int)) → ((Int) → (List (List Int)) → PM.R) → PM.R
  | 0, _, _, _, _ => none
  | n + 1, k1, i2, o03, kx0_0 =>
    bif (A.lt i2 (A.vlen o03)) then
      bif (A.inb i2 (A.vlen o03)) then
        bif (A.inb i2 (A.vlen (A.vset o03 i2 0 k1))) then
          laws_markRowS_l0 A n (A.add .i64 (A.add .i64 k1 1) 1) (A.add .i64 i2 1) (A.vset (A.vset o03 i2 0 k1) i2 1 (A.add .i64 k1 1)) kx0_0
        else
          none
      else
        none
    else
      kx0_0 k1 o03
noncomputable def laws_markRowS_f (A : PM.Prims) (a : List (List Int)) (k_ : Int) (k : (Int) → (List (List Int)) → PM.R) : PM.R :=
  laws_markRowS_l0 A A.fuel k_ 0 a (fun k46 o057 =>
    k k46 o057)
noncomputable def laws_markRowS (A : PM.Prims) : laws_markRowS_T := laws_markRowS_f A
noncomputable def laws_markRowS_L (A : PM.Prims) (n : Nat) : PM.Lam := fun cur σ K =>
  match cur, σ, K with
  | 0, ⟨[(0, .sref 0), (1, .int .i64 k1), (5, .int .i64 i2)], [(0, .arr false (.vecs 161 2 o03))]⟩, K => laws_markRowS_l0 A n k1 i2 o03 (fun k4 o05 => K (.exit 0) ⟨[(0, .sref 0), (1, .int .i64 k4)], [(0, .arr false (.vecs 161 2 o05))]⟩)
  | _, _, _ => none
noncomputable def laws_markRowS_E (A : PM.Prims) : PM.Env := ⟨[], [], [(0, [0, 1, 5], [0, 1, 4])], [(0, [0, 1]), (1, [0, 1, 5]), (2, [0, 1, 5, 9]), (3, [0, 1, 5]), (4, [0, 1, 5]), (5, [0, 1, 5]), (6, [0, 1, 5]), (7, [0, 1, 5]), (8, [0, 4])], laws_markRowS_L A A.fuel⟩
theorem laws_markRowS_l0_ok (A : PM.Prims) (n : Nat) (k1 : Int) (i2 : Int) (o03 : List (List Int)) (K : Go.Exit → PM.S → PM.R) : laws_markRowS_L A (n + 1) 0 ⟨[(0, .sref 0), (1, .int .i64 k1), (5, .int .i64 i2)], [(0, .arr false (.vecs 161 2 o03))]⟩ K = PM.roundF A cx (PM.runD A cx (laws_markRowS_E A).inl (laws_markRowS_E A).Γ 3) (laws_markRowS_E A) (laws_markRowS_L A n) 0 Go.Proofs.Try.f68 ⟨[(0, .sref 0), (1, .int .i64 k1), (5, .int .i64 i2)], [(0, .arr false (.vecs 161 2 o03))]⟩ K := by kernel_rfl
theorem laws_markRowS_ok (A : PM.Prims) (a : List (List Int)) (k_ : Int) (k : PM.V → PM.R) : PM.pfun A cx [true, false] (laws_markRowS_E A) Go.Proofs.Try.f68 [.arr (.vecs 161 2 a), .int .i64 k_] k = laws_markRowS_f A a k_ (fun r0 o0 => k (.tup [.int .i64 r0, .arr (.vecs 161 2 o0)])) := by kernel_rfl

theorem laws_markRowS_fn : PM.FnIs Try.prog 68 Try.f68 := .of Try.func68 (by kernel_rfl) (by kernel_rfl)
theorem laws_markRowS_g : PM.GOk Try.prog cx 68 ⟨[true, false], laws_markRowS_w (laws_markRowS PM.std), none⟩ := by
  refine ⟨laws_markRowS_fn.enter, fun hm => (by cases hm), fun _ ds k r h => ?_, fun _ e => (by cases e)⟩
  change laws_markRowS_w (laws_markRowS PM.std) ds k = some r at h
  unfold laws_markRowS_w at h
  split at h
  · exact PM.pfun_okM (List.cons_ne_nil _ _) (E := laws_markRowS_E PM.std) (L := fun n => laws_markRowS_L PM.std n) (N := PM.std.fuel) cx_ok .nil mixed .nil laws_markRowS_fn (by kernel_rfl) ⟨rfl, fun cur σ K => by
      dsimp only [laws_markRowS_L]
      split <;> rfl, fun n cur σ K r h => by
      dsimp only [laws_markRowS_L] at h
      split at h
      · exact (laws_markRowS_l0_ok PM.std n _ _ _ K).symm.trans h
      · cases h⟩
      ((laws_markRowS_ok PM.std _ _ k).trans h)
  · cases h

abbrev laws_heldRowS_T := (List (List Int)) → (Int) → ((Int) → PM.R) → PM.R
noncomputable def laws_heldRowS_w (c : laws_heldRowS_T) (ds : List PM.V) (k : PM.V → PM.R) : PM.R :=
  match ds with
  | [.arr (.vecs 161 2 a), .int .i64 k_] => c a k_ (fun r0 => k (.int .i64 r0))
  | _ => none
noncomputable def laws_heldRowS_l0 (A : PM.Prims) : Nat → (List (List Int)) → (Int) → (Int) → ((Int) → PM.R) → ((Int) → PM.R) → PM.R
  | 0, _, _, _, _, _ => none
  | n + 1, a1, k2, i3, kret_0, kx0_0 =>
    bif (A.lt i3 (A.vlen a1)) then
      bif (A.inb i3 (A.vlen a1)) then
        bif (A.not (A.eq (A.vget a1 i3 0) k2)) then
          kret_0 (-1)
        else
          bif (A.inb i3 (A.vlen a1)) then
            bif (A.not (A.eq (A.vget a1 i3 1) (A.add .i64 k2 1))) then
              kret_0 (-1)
            else
              laws_heldRowS_l0 A n a1 (A.add .i64 (A.add .i64 k2 1) 1) (A.add .i64 i3 1) kret_0 kx0_0
          else
            none
      else
        none
    else
      kx0_0 k2
noncomputable def laws_heldRowS_f (A : PM.Prims) (a : List (List Int)) (k_ : Int) (k : (Int) → PM.R) : PM.R :=
  laws_heldRowS_l0 A A.fuel a k_ 0 (fun t446 =>
    k t446) (fun k57 =>
    k k57)
noncomputable def laws_heldRowS (A : PM.Prims) : laws_heldRowS_T := laws_heldRowS_f A
noncomputable def laws_heldRowS_L (A : PM.Prims) (n : Nat) : PM.Lam := fun cur σ K =>
  match cur, σ, K with
  | 0, ⟨[(0, .arr (.vecs 161 2 a1)), (1, .int .i64 k2), (5, .int .i64 i3)], []⟩, K => laws_heldRowS_l0 A n a1 k2 i3 (fun t44 => K .ret ⟨[(4, .int .i64 t44)], []⟩) (fun k5 => K (.exit 0) ⟨[(1, .int .i64 k5)], []⟩)
  | _, _, _ => none
noncomputable def laws_heldRowS_E (A : PM.Prims) : PM.Env := ⟨[], [], [(0, [0, 1, 5], [1, 4])], [(0, [0, 1]), (1, [0, 1, 5]), (2, [0, 1, 5, 9]), (3, [0, 1, 5]), (4, [0, 1, 5, 18]), (5, [4]), (6, [0, 1, 5]), (7, [0, 1, 5, 27]), (8, [4]), (9, [0, 1, 5]), (10, [4])], laws_heldRowS_L A A.fuel⟩
theorem laws_heldRowS_l0_ok (A : PM.Prims) (n : Nat) (a1 : List (List Int)) (k2 : Int) (i3 : Int) (K : Go.Exit → PM.S → PM.R) : laws_heldRowS_L A (n + 1) 0 ⟨[(0, .arr (.vecs 161 2 a1)), (1, .int .i64 k2), (5, .int .i64 i3)], []⟩ K = PM.roundF A cx (PM.runD A cx (laws_heldRowS_E A).inl (laws_heldRowS_E A).Γ 3) (laws_heldRowS_E A) (laws_heldRowS_L A n) 0 Go.Proofs.Try.f69 ⟨[(0, .arr (.vecs 161 2 a1)), (1, .int .i64 k2), (5, .int .i64 i3)], []⟩ K := by kernel_rfl
theorem laws_heldRowS_ok (A : PM.Prims) (a : List (List Int)) (k_ : Int) (k : PM.V → PM.R) : PM.pfun A cx [] (laws_heldRowS_E A) Go.Proofs.Try.f69 [.arr (.vecs 161 2 a), .int .i64 k_] k = laws_heldRowS_f A a k_ (fun r0 => k (.int .i64 r0)) := by kernel_rfl

theorem laws_heldRowS_fn : PM.FnIs Try.prog 69 Try.f69 := .of Try.func69 (by kernel_rfl) (by kernel_rfl)
theorem laws_heldRowS_g : PM.GOk Try.prog cx 69 ⟨[], laws_heldRowS_w (laws_heldRowS PM.std), none⟩ := by
  refine ⟨laws_heldRowS_fn.enter, fun _ ds k r h => ?_, fun hm => absurd rfl hm, fun _ e => (by cases e)⟩
  change laws_heldRowS_w (laws_heldRowS PM.std) ds k = some r at h
  unfold laws_heldRowS_w at h
  split at h
  · exact PM.pfun_ok (E := laws_heldRowS_E PM.std) (L := fun n => laws_heldRowS_L PM.std n) (N := PM.std.fuel) cx_ok .nil mixed .nil laws_heldRowS_fn (by kernel_rfl) ⟨rfl, fun cur σ K => by
      dsimp only [laws_heldRowS_L]
      split <;> rfl, fun n cur σ K r h => by
      dsimp only [laws_heldRowS_L] at h
      split at h
      · exact (laws_heldRowS_l0_ok PM.std n _ _ _ K).symm.trans h
      · cases h⟩
      ((laws_heldRowS_ok PM.std _ _ k).trans h)
  · cases h

abbrev laws_FnExactFamPuts_T := (Int) → (Int) → (Int) → (Bool) → (List Int) → (List (List Int)) → (List (List Int)) → (List Int) → (List (List Int)) → (List (List PM.C)) → ((Bool) → PM.R) → PM.R
noncomputable def laws_FnExactFamPuts_w (c : laws_FnExactFamPuts_T) (ds : List PM.V) (k : PM.V → PM.R) : PM.R :=
  match ds with
  | [.agg [.int .i64 ___Rv, .int .i64 ___Clock, .int .i64 ___Owner, .bool ___Lost, .arr (.ints 3 .i64 ___Regs), .arr (.vecs 297 2 ___Start), .arr (.vecs 299 3 ___Buf), .arr (.ints 3 .i64 ___Order), .arr (.vecs 297 2 ___Reads), .arr (.rows 295 ___Kids)]] => c ___Rv ___Clock ___Owner ___Lost ___Regs ___Start ___Buf ___Order ___Reads ___Kids (fun r0 => k (.bool r0))
  | _ => none
noncomputable def laws_FnExactFamPuts_f (A : PM.Prims) (c_57 : laws_szFamily_T) (c_59 : laws_toFamily_T) (c_64 : spec_FamPuts_T) (c_65 : impl_FamPuts_T) (c_66 : laws_eqRowS_T) (c_61 : laws_eqFamily_T) (c_67 : laws_markFamily_T) (c_68 : laws_markRowS_T) (c_69 : laws_heldRowS_T) (___Rv : Int) (___Clock : Int) (___Owner : Int) (___Lost : Bool) (___Regs : List Int) (___Start : List (List Int)) (___Buf : List (List Int)) (___Order : List Int) (___Reads : List (List Int)) (___Kids : List (List PM.C)) (k : (Bool) → PM.R) : PM.R :=
  c_57 (A.rint [[(.i ___Rv), (.i ___Clock), (.i ___Owner), (.b ___Lost), (.s (A.ofi ___Regs)), (.s (A.ofv ___Start)), (.s (A.ofv ___Buf)), (.s (A.ofi ___Order)), (.s (A.ofv ___Reads)), (.s ___Kids)]] 0 0) (A.rint [[(.i ___Rv), (.i ___Clock), (.i ___Owner), (.b ___Lost), (.s (A.ofi ___Regs)), (.s (A.ofv ___Start)), (.s (A.ofv ___Buf)), (.s (A.ofi ___Order)), (.s (A.ofv ___Reads)), (.s ___Kids)]] 0 1) (A.rint [[(.i ___Rv), (.i ___Clock), (.i ___Owner), (.b ___Lost), (.s (A.ofi ___Regs)), (.s (A.ofv ___Start)), (.s (A.ofv ___Buf)), (.s (A.ofi ___Order)), (.s (A.ofv ___Reads)), (.s ___Kids)]] 0 2) (A.rbool [[(.i ___Rv), (.i ___Clock), (.i ___Owner), (.b ___Lost), (.s (A.ofi ___Regs)), (.s (A.ofv ___Start)), (.s (A.ofv ___Buf)), (.s (A.ofi ___Order)), (.s (A.ofv ___Reads)), (.s ___Kids)]] 0 3) (A.rsi [[(.i ___Rv), (.i ___Clock), (.i ___Owner), (.b ___Lost), (.s (A.ofi ___Regs)), (.s (A.ofv ___Start)), (.s (A.ofv ___Buf)), (.s (A.ofi ___Order)), (.s (A.ofv ___Reads)), (.s ___Kids)]] 0 4) (A.rsv 2 [[(.i ___Rv), (.i ___Clock), (.i ___Owner), (.b ___Lost), (.s (A.ofi ___Regs)), (.s (A.ofv ___Start)), (.s (A.ofv ___Buf)), (.s (A.ofi ___Order)), (.s (A.ofv ___Reads)), (.s ___Kids)]] 0 5) (A.rsv 3 [[(.i ___Rv), (.i ___Clock), (.i ___Owner), (.b ___Lost), (.s (A.ofi ___Regs)), (.s (A.ofv ___Start)), (.s (A.ofv ___Buf)), (.s (A.ofi ___Order)), (.s (A.ofv ___Reads)), (.s ___Kids)]] 0 6) (A.rsi [[(.i ___Rv), (.i ___Clock), (.i ___Owner), (.b ___Lost), (.s (A.ofi ___Regs)), (.s (A.ofv ___Start)), (.s (A.ofv ___Buf)), (.s (A.ofi ___Order)), (.s (A.ofv ___Reads)), (.s ___Kids)]] 0 7) (A.rsv 2 [[(.i ___Rv), (.i ___Clock), (.i ___Owner), (.b ___Lost), (.s (A.ofi ___Regs)), (.s (A.ofv ___Start)), (.s (A.ofv ___Buf)), (.s (A.ofi ___Order)), (.s (A.ofv ___Reads)), (.s ___Kids)]] 0 8) (A.rsr [[(.i ___Rv), (.i ___Clock), (.i ___Owner), (.b ___Lost), (.s (A.ofi ___Regs)), (.s (A.ofv ___Start)), (.s (A.ofv ___Buf)), (.s (A.ofi ___Order)), (.s (A.ofv ___Reads)), (.s ___Kids)]] 0 9) 1048576 (fun r1 =>
    bif (A.lt r1 0) then
      k true
    else
      c_59 (A.rint [[(.i ___Rv), (.i ___Clock), (.i ___Owner), (.b ___Lost), (.s (A.ofi ___Regs)), (.s (A.ofv ___Start)), (.s (A.ofv ___Buf)), (.s (A.ofi ___Order)), (.s (A.ofv ___Reads)), (.s ___Kids)]] 0 0) (A.rint [[(.i ___Rv), (.i ___Clock), (.i ___Owner), (.b ___Lost), (.s (A.ofi ___Regs)), (.s (A.ofv ___Start)), (.s (A.ofv ___Buf)), (.s (A.ofi ___Order)), (.s (A.ofv ___Reads)), (.s ___Kids)]] 0 1) (A.rint [[(.i ___Rv), (.i ___Clock), (.i ___Owner), (.b ___Lost), (.s (A.ofi ___Regs)), (.s (A.ofv ___Start)), (.s (A.ofv ___Buf)), (.s (A.ofi ___Order)), (.s (A.ofv ___Reads)), (.s ___Kids)]] 0 2) (A.rbool [[(.i ___Rv), (.i ___Clock), (.i ___Owner), (.b ___Lost), (.s (A.ofi ___Regs)), (.s (A.ofv ___Start)), (.s (A.ofv ___Buf)), (.s (A.ofi ___Order)), (.s (A.ofv ___Reads)), (.s ___Kids)]] 0 3) (A.rsi [[(.i ___Rv), (.i ___Clock), (.i ___Owner), (.b ___Lost), (.s (A.ofi ___Regs)), (.s (A.ofv ___Start)), (.s (A.ofv ___Buf)), (.s (A.ofi ___Order)), (.s (A.ofv ___Reads)), (.s ___Kids)]] 0 4) (A.rsv 2 [[(.i ___Rv), (.i ___Clock), (.i ___Owner), (.b ___Lost), (.s (A.ofi ___Regs)), (.s (A.ofv ___Start)), (.s (A.ofv ___Buf)), (.s (A.ofi ___Order)), (.s (A.ofv ___Reads)), (.s ___Kids)]] 0 5) (A.rsv 3 [[(.i ___Rv), (.i ___Clock), (.i ___Owner), (.b ___Lost), (.s (A.ofi ___Regs)), (.s (A.ofv ___Start)), (.s (A.ofv ___Buf)), (.s (A.ofi ___Order)), (.s (A.ofv ___Reads)), (.s ___Kids)]] 0 6) (A.rsi [[(.i ___Rv), (.i ___Clock), (.i ___Owner), (.b ___Lost), (.s (A.ofi ___Regs)), (.s (A.ofv ___Start)), (.s (A.ofv ___Buf)), (.s (A.ofi ___Order)), (.s (A.ofv ___Reads)), (.s ___Kids)]] 0 7) (A.rsv 2 [[(.i ___Rv), (.i ___Clock), (.i ___Owner), (.b ___Lost), (.s (A.ofi ___Regs)), (.s (A.ofv ___Start)), (.s (A.ofv ___Buf)), (.s (A.ofi ___Order)), (.s (A.ofv ___Reads)), (.s ___Kids)]] 0 8) (A.rsr [[(.i ___Rv), (.i ___Clock), (.i ___Owner), (.b ___Lost), (.s (A.ofi ___Regs)), (.s (A.ofv ___Start)), (.s (A.ofv ___Buf)), (.s (A.ofi ___Order)), (.s (A.ofv ___Reads)), (.s ___Kids)]] 0 9) (fun r2 r3 r4 r5 r6 r7 r8 r9 r10 r11 =>
        c_64 r2 r3 r4 r5 r6 r7 r8 r9 r10 r11 (fun r12 =>
          c_59 (A.rint [[(.i ___Rv), (.i ___Clock), (.i ___Owner), (.b ___Lost), (.s (A.ofi ___Regs)), (.s (A.ofv ___Start)), (.s (A.ofv ___Buf)), (.s (A.ofi ___Order)), (.s (A.ofv ___Reads)), (.s ___Kids)]] 0 0) (A.rint [[(.i ___Rv), (.i ___Clock), (.i ___Owner), (.b ___Lost), (.s (A.ofi ___Regs)), (.s (A.ofv ___Start)), (.s (A.ofv ___Buf)), (.s (A.ofi ___Order)), (.s (A.ofv ___Reads)), (.s ___Kids)]] 0 1) (A.rint [[(.i ___Rv), (.i ___Clock), (.i ___Owner), (.b ___Lost), (.s (A.ofi ___Regs)), (.s (A.ofv ___Start)), (.s (A.ofv ___Buf)), (.s (A.ofi ___Order)), (.s (A.ofv ___Reads)), (.s ___Kids)]] 0 2) (A.rbool [[(.i ___Rv), (.i ___Clock), (.i ___Owner), (.b ___Lost), (.s (A.ofi ___Regs)), (.s (A.ofv ___Start)), (.s (A.ofv ___Buf)), (.s (A.ofi ___Order)), (.s (A.ofv ___Reads)), (.s ___Kids)]] 0 3) (A.rsi [[(.i ___Rv), (.i ___Clock), (.i ___Owner), (.b ___Lost), (.s (A.ofi ___Regs)), (.s (A.ofv ___Start)), (.s (A.ofv ___Buf)), (.s (A.ofi ___Order)), (.s (A.ofv ___Reads)), (.s ___Kids)]] 0 4) (A.rsv 2 [[(.i ___Rv), (.i ___Clock), (.i ___Owner), (.b ___Lost), (.s (A.ofi ___Regs)), (.s (A.ofv ___Start)), (.s (A.ofv ___Buf)), (.s (A.ofi ___Order)), (.s (A.ofv ___Reads)), (.s ___Kids)]] 0 5) (A.rsv 3 [[(.i ___Rv), (.i ___Clock), (.i ___Owner), (.b ___Lost), (.s (A.ofi ___Regs)), (.s (A.ofv ___Start)), (.s (A.ofv ___Buf)), (.s (A.ofi ___Order)), (.s (A.ofv ___Reads)), (.s ___Kids)]] 0 6) (A.rsi [[(.i ___Rv), (.i ___Clock), (.i ___Owner), (.b ___Lost), (.s (A.ofi ___Regs)), (.s (A.ofv ___Start)), (.s (A.ofv ___Buf)), (.s (A.ofi ___Order)), (.s (A.ofv ___Reads)), (.s ___Kids)]] 0 7) (A.rsv 2 [[(.i ___Rv), (.i ___Clock), (.i ___Owner), (.b ___Lost), (.s (A.ofi ___Regs)), (.s (A.ofv ___Start)), (.s (A.ofv ___Buf)), (.s (A.ofi ___Order)), (.s (A.ofv ___Reads)), (.s ___Kids)]] 0 8) (A.rsr [[(.i ___Rv), (.i ___Clock), (.i ___Owner), (.b ___Lost), (.s (A.ofi ___Regs)), (.s (A.ofv ___Start)), (.s (A.ofv ___Buf)), (.s (A.ofi ___Order)), (.s (A.ofv ___Reads)), (.s ___Kids)]] 0 9) (fun r13 r14 r15 r16 r17 r18 r19 r20 r21 r22 =>
            c_65 r13 r14 r15 r16 r17 r18 r19 r20 r21 r22 (fun r23 =>
              c_66 r23 r12 (fun r24 =>
                bif (A.not r24) then
                  k false
                else
                  c_59 (A.rint [[(.i ___Rv), (.i ___Clock), (.i ___Owner), (.b ___Lost), (.s (A.ofi ___Regs)), (.s (A.ofv ___Start)), (.s (A.ofv ___Buf)), (.s (A.ofi ___Order)), (.s (A.ofv ___Reads)), (.s ___Kids)]] 0 0) (A.rint [[(.i ___Rv), (.i ___Clock), (.i ___Owner), (.b ___Lost), (.s (A.ofi ___Regs)), (.s (A.ofv ___Start)), (.s (A.ofv ___Buf)), (.s (A.ofi ___Order)), (.s (A.ofv ___Reads)), (.s ___Kids)]] 0 1) (A.rint [[(.i ___Rv), (.i ___Clock), (.i ___Owner), (.b ___Lost), (.s (A.ofi ___Regs)), (.s (A.ofv ___Start)), (.s (A.ofv ___Buf)), (.s (A.ofi ___Order)), (.s (A.ofv ___Reads)), (.s ___Kids)]] 0 2) (A.rbool [[(.i ___Rv), (.i ___Clock), (.i ___Owner), (.b ___Lost), (.s (A.ofi ___Regs)), (.s (A.ofv ___Start)), (.s (A.ofv ___Buf)), (.s (A.ofi ___Order)), (.s (A.ofv ___Reads)), (.s ___Kids)]] 0 3) (A.rsi [[(.i ___Rv), (.i ___Clock), (.i ___Owner), (.b ___Lost), (.s (A.ofi ___Regs)), (.s (A.ofv ___Start)), (.s (A.ofv ___Buf)), (.s (A.ofi ___Order)), (.s (A.ofv ___Reads)), (.s ___Kids)]] 0 4) (A.rsv 2 [[(.i ___Rv), (.i ___Clock), (.i ___Owner), (.b ___Lost), (.s (A.ofi ___Regs)), (.s (A.ofv ___Start)), (.s (A.ofv ___Buf)), (.s (A.ofi ___Order)), (.s (A.ofv ___Reads)), (.s ___Kids)]] 0 5) (A.rsv 3 [[(.i ___Rv), (.i ___Clock), (.i ___Owner), (.b ___Lost), (.s (A.ofi ___Regs)), (.s (A.ofv ___Start)), (.s (A.ofv ___Buf)), (.s (A.ofi ___Order)), (.s (A.ofv ___Reads)), (.s ___Kids)]] 0 6) (A.rsi [[(.i ___Rv), (.i ___Clock), (.i ___Owner), (.b ___Lost), (.s (A.ofi ___Regs)), (.s (A.ofv ___Start)), (.s (A.ofv ___Buf)), (.s (A.ofi ___Order)), (.s (A.ofv ___Reads)), (.s ___Kids)]] 0 7) (A.rsv 2 [[(.i ___Rv), (.i ___Clock), (.i ___Owner), (.b ___Lost), (.s (A.ofi ___Regs)), (.s (A.ofv ___Start)), (.s (A.ofv ___Buf)), (.s (A.ofi ___Order)), (.s (A.ofv ___Reads)), (.s ___Kids)]] 0 8) (A.rsr [[(.i ___Rv), (.i ___Clock), (.i ___Owner), (.b ___Lost), (.s (A.ofi ___Regs)), (.s (A.ofv ___Start)), (.s (A.ofv ___Buf)), (.s (A.ofi ___Order)), (.s (A.ofv ___Reads)), (.s ___Kids)]] 0 9) (fun r25 r26 r27 r28 r29 r30 r31 r32 r33 r34 =>
                    c_61 r13 r14 r15 r16 r17 r18 r19 r20 r21 r22 r25 r26 r27 r28 r29 r30 r31 r32 r33 r34 (fun r35 =>
                      bif (A.not r35) then
                        k false
                      else
                        c_67 r13 r14 r15 r16 r17 r18 r19 r20 r21 r22 1 (fun r36 =>
                          bif (A.lt r36 0) then
                            k false
                          else
                            c_66 r23 r12 (fun r37 =>
                              bif (A.not r37) then
                                k false
                              else
                                c_68 r23 1 (fun r38 r39 =>
                                  c_69 r39 1 (fun r40 =>
                                    bif (A.lt r40 0) then
                                      k false
                                    else
                                      bif (A.not (A.eq r40 r38)) then
                                        k false
                                      else
                                        c_59 (A.rint [[(.i ___Rv), (.i ___Clock), (.i ___Owner), (.b ___Lost), (.s (A.ofi ___Regs)), (.s (A.ofv ___Start)), (.s (A.ofv ___Buf)), (.s (A.ofi ___Order)), (.s (A.ofv ___Reads)), (.s ___Kids)]] 0 0) (A.rint [[(.i ___Rv), (.i ___Clock), (.i ___Owner), (.b ___Lost), (.s (A.ofi ___Regs)), (.s (A.ofv ___Start)), (.s (A.ofv ___Buf)), (.s (A.ofi ___Order)), (.s (A.ofv ___Reads)), (.s ___Kids)]] 0 1) (A.rint [[(.i ___Rv), (.i ___Clock), (.i ___Owner), (.b ___Lost), (.s (A.ofi ___Regs)), (.s (A.ofv ___Start)), (.s (A.ofv ___Buf)), (.s (A.ofi ___Order)), (.s (A.ofv ___Reads)), (.s ___Kids)]] 0 2) (A.rbool [[(.i ___Rv), (.i ___Clock), (.i ___Owner), (.b ___Lost), (.s (A.ofi ___Regs)), (.s (A.ofv ___Start)), (.s (A.ofv ___Buf)), (.s (A.ofi ___Order)), (.s (A.ofv ___Reads)), (.s ___Kids)]] 0 3) (A.rsi [[(.i ___Rv), (.i ___Clock), (.i ___Owner), (.b ___Lost), (.s (A.ofi ___Regs)), (.s (A.ofv ___Start)), (.s (A.ofv ___Buf)), (.s (A.ofi ___Order)), (.s (A.ofv ___Reads)), (.s ___Kids)]] 0 4) (A.rsv 2 [[(.i ___Rv), (.i ___Clock), (.i ___Owner), (.b ___Lost), (.s (A.ofi ___Regs)), (.s (A.ofv ___Start)), (.s (A.ofv ___Buf)), (.s (A.ofi ___Order)), (.s (A.ofv ___Reads)), (.s ___Kids)]] 0 5) (A.rsv 3 [[(.i ___Rv), (.i ___Clock), (.i ___Owner), (.b ___Lost), (.s (A.ofi ___Regs)), (.s (A.ofv ___Start)), (.s (A.ofv ___Buf)), (.s (A.ofi ___Order)), (.s (A.ofv ___Reads)), (.s ___Kids)]] 0 6) (A.rsi [[(.i ___Rv), (.i ___Clock), (.i ___Owner), (.b ___Lost), (.s (A.ofi ___Regs)), (.s (A.ofv ___Start)), (.s (A.ofv ___Buf)), (.s (A.ofi ___Order)), (.s (A.ofv ___Reads)), (.s ___Kids)]] 0 7) (A.rsv 2 [[(.i ___Rv), (.i ___Clock), (.i ___Owner), (.b ___Lost), (.s (A.ofi ___Regs)), (.s (A.ofv ___Start)), (.s (A.ofv ___Buf)), (.s (A.ofi ___Order)), (.s (A.ofv ___Reads)), (.s ___Kids)]] 0 8) (A.rsr [[(.i ___Rv), (.i ___Clock), (.i ___Owner), (.b ___Lost), (.s (A.ofi ___Regs)), (.s (A.ofv ___Start)), (.s (A.ofv ___Buf)), (.s (A.ofi ___Order)), (.s (A.ofv ___Reads)), (.s ___Kids)]] 0 9) (fun r41 r42 r43 r44 r45 r46 r47 r48 r49 r50 =>
                                          c_65 r41 r42 r43 r44 r45 r46 r47 r48 r49 r50 (fun r51 =>
                                            c_66 r51 r12 (fun r52 =>
                                              bif (A.not r52) then
                                                k false
                                              else
                                                c_69 r39 1 (fun r53 =>
                                                  bif (A.lt r53 0) then
                                                    k false
                                                  else
                                                    bif (A.not (A.eq r53 r38)) then
                                                      k false
                                                    else
                                                      k true))))))))))))))))
noncomputable def laws_FnExactFamPuts (A : PM.Prims) : laws_FnExactFamPuts_T := laws_FnExactFamPuts_f A (laws_szFamily A) (laws_toFamily A) (spec_FamPuts A) (impl_FamPuts A) (laws_eqRowS A) (laws_eqFamily A) (laws_markFamily A) (laws_markRowS A) (laws_heldRowS A)
noncomputable def laws_FnExactFamPuts_L (A : PM.Prims) (c_57 : laws_szFamily_T) (c_59 : laws_toFamily_T) (c_64 : spec_FamPuts_T) (c_65 : impl_FamPuts_T) (c_66 : laws_eqRowS_T) (c_61 : laws_eqFamily_T) (c_67 : laws_markFamily_T) (c_68 : laws_markRowS_T) (c_69 : laws_heldRowS_T) (n : Nat) : PM.Lam := fun cur σ K =>
  match cur, σ, K with
  | _, _, _ => none
noncomputable def laws_FnExactFamPuts_E (A : PM.Prims) (c_57 : laws_szFamily_T) (c_59 : laws_toFamily_T) (c_64 : spec_FamPuts_T) (c_65 : impl_FamPuts_T) (c_66 : laws_eqRowS_T) (c_61 : laws_eqFamily_T) (c_67 : laws_markFamily_T) (c_68 : laws_markRowS_T) (c_69 : laws_heldRowS_T) : PM.Env := ⟨[(57, ⟨[], laws_szFamily_w c_57, none⟩), (59, ⟨[], laws_toFamily_w c_59, none⟩), (64, ⟨[], spec_FamPuts_w c_64, none⟩), (65, ⟨[], impl_FamPuts_w c_65, none⟩), (66, ⟨[], laws_eqRowS_w c_66, none⟩), (61, ⟨[], laws_eqFamily_w c_61, none⟩), (68, ⟨[true, false], laws_markRowS_w c_68, none⟩), (69, ⟨[], laws_heldRowS_w c_69, none⟩)], [], [], [(0, [1]), (1, [1, 3]), (2, [1, 3]), (3, [1, 15]), (4, [2]), (5, [1, 4]), (6, [1, 4, 5]), (7, [1, 4, 5, 6]), (8, [1, 4, 5, 6, 26]), (9, [2]), (10, [1, 4, 5, 6, 31]), (11, [2]), (12, [1, 4, 5, 6, 7]), (13, [1, 4, 6, 7]), (14, [1, 4, 6, 42]), (15, [2]), (16, [1, 4, 6, 8]), (17, [1, 4, 6, 8]), (18, [1, 4, 6, 8, 9]), (19, [1, 4, 6, 8, 9]), (20, [1, 4, 6, 8, 9, 50]), (21, [2]), (22, [1, 4, 6, 8, 53]), (23, [2]), (24, [4, 6, 8, 10]), (25, [6, 8, 60]), (26, [2]), (27, [6, 8, 9]), (28, [8, 9]), (29, [8, 9, 65]), (30, [2]), (31, [68]), (32, [2]), (33, [2])], laws_FnExactFamPuts_L A c_57 c_59 c_64 c_65 c_66 c_61 c_67 c_68 c_69 A.fuel⟩
theorem laws_FnExactFamPuts_ok (A : PM.Prims) (c_57 : laws_szFamily_T) (c_59 : laws_toFamily_T) (c_64 : spec_FamPuts_T) (c_65 : impl_FamPuts_T) (c_66 : laws_eqRowS_T) (c_61 : laws_eqFamily_T) (c_67 : laws_markFamily_T) (c_68 : laws_markRowS_T) (c_69 : laws_heldRowS_T) (___Rv : Int) (___Clock : Int) (___Owner : Int) (___Lost : Bool) (___Regs : List Int) (___Start : List (List Int)) (___Buf : List (List Int)) (___Order : List Int) (___Reads : List (List Int)) (___Kids : List (List PM.C)) (k : PM.V → PM.R) : PM.lfunB A cx [(67, laws_markFamily_w c_67)] (laws_FnExactFamPuts_E A c_57 c_59 c_64 c_65 c_66 c_61 c_67 c_68 c_69) Go.Proofs.Try.f12 [.agg [.int .i64 ___Rv, .int .i64 ___Clock, .int .i64 ___Owner, .bool ___Lost, .arr (.ints 3 .i64 ___Regs), .arr (.vecs 297 2 ___Start), .arr (.vecs 299 3 ___Buf), .arr (.ints 3 .i64 ___Order), .arr (.vecs 297 2 ___Reads), .arr (.rows 295 ___Kids)]] k = laws_FnExactFamPuts_f A c_57 c_59 c_64 c_65 c_66 c_61 c_67 c_68 c_69 ___Rv ___Clock ___Owner ___Lost ___Regs ___Start ___Buf ___Order ___Reads ___Kids (fun r0 => k (.bool r0)) := by kernel_rfl

theorem laws_FnExactFamPuts_fn : PM.FnIs Try.prog 12 Try.f12 := .of Try.func12 (by kernel_rfl) (by kernel_rfl)
theorem laws_FnExactFamPuts_g : PM.GOk Try.prog cx 12 ⟨[], laws_FnExactFamPuts_w (laws_FnExactFamPuts PM.std), none⟩ := by
  refine ⟨laws_FnExactFamPuts_fn.enter, fun _ ds k r h => ?_, fun hm => absurd rfl hm, fun _ e => (by cases e)⟩
  change laws_FnExactFamPuts_w (laws_FnExactFamPuts PM.std) ds k = some r at h
  unfold laws_FnExactFamPuts_w at h
  split at h
  · exact PM.lfunB_ok (E := laws_FnExactFamPuts_E PM.std (laws_szFamily PM.std) (laws_toFamily PM.std) (spec_FamPuts PM.std) (impl_FamPuts PM.std) (laws_eqRowS PM.std) (laws_eqFamily PM.std) (laws_markFamily PM.std) (laws_markRowS PM.std) (laws_heldRowS PM.std)) (M := [(67, laws_markFamily_w (laws_markFamily PM.std))]) (.cons laws_markFamily_mk .nil) cx_ok (.cons laws_szFamily_g (.cons laws_toFamily_g (.cons spec_FamPuts_g (.cons impl_FamPuts_g (.cons laws_eqRowS_g (.cons laws_eqFamily_g (.cons laws_markRowS_g (.cons laws_heldRowS_g .nil)))))))) mixed .nil laws_FnExactFamPuts_fn (by kernel_rfl)
      ((laws_FnExactFamPuts_ok PM.std (laws_szFamily PM.std) (laws_toFamily PM.std) (spec_FamPuts PM.std) (impl_FamPuts PM.std) (laws_eqRowS PM.std) (laws_eqFamily PM.std) (laws_markFamily PM.std) (laws_markRowS PM.std) (laws_heldRowS PM.std) _ _ _ _ _ _ _ _ _ _ k).trans h)
  · cases h

abbrev spec_l1In_T := (Int) → (Int) → (Int) → ((Bool) → PM.R) → PM.R
noncomputable def spec_l1In_w (c : spec_l1In_T) (ds : List PM.V) (k : PM.V → PM.R) : PM.R :=
  match ds with
  | [.int .i64 x, .int .i64 low, .int .i64 high] => c x low high (fun r0 => k (.bool r0))
  | _ => none
noncomputable def spec_l1In_f (A : PM.Prims) (x : Int) (low : Int) (high : Int) (k : (Bool) → PM.R) : PM.R :=
  bif (A.le low x) then
    k (A.le x high)
  else
    k false
noncomputable def spec_l1In (A : PM.Prims) : spec_l1In_T := spec_l1In_f A
noncomputable def spec_l1In_L (A : PM.Prims) (n : Nat) : PM.Lam := fun cur σ K =>
  match cur, σ, K with
  | _, _, _ => none
noncomputable def spec_l1In_E (A : PM.Prims) : PM.Env := ⟨[], [], [], [(0, [0, 1, 2]), (1, [6])], spec_l1In_L A A.fuel⟩
theorem spec_l1In_ok (A : PM.Prims) (x : Int) (low : Int) (high : Int) (k : PM.V → PM.R) : PM.pfun A cx [] (spec_l1In_E A) Go.Proofs.Try.f103 [.int .i64 x, .int .i64 low, .int .i64 high] k = spec_l1In_f A x low high (fun r0 => k (.bool r0)) := by kernel_rfl

theorem spec_l1In_fn : PM.FnIs Try.prog 103 Try.f103 := .of Try.func103 (by kernel_rfl) (by kernel_rfl)
theorem spec_l1In_g : PM.GOk Try.prog cx 103 ⟨[], spec_l1In_w (spec_l1In PM.std), none⟩ := by
  refine ⟨spec_l1In_fn.enter, fun _ ds k r h => ?_, fun hm => absurd rfl hm, fun _ e => (by cases e)⟩
  change spec_l1In_w (spec_l1In PM.std) ds k = some r at h
  unfold spec_l1In_w at h
  split at h
  · exact PM.pfun_ok (E := spec_l1In_E PM.std) (L := fun n => spec_l1In_L PM.std n) (N := PM.std.fuel) cx_ok .nil mixed .nil spec_l1In_fn (by kernel_rfl) ⟨rfl, fun _ _ _ => rfl, fun n cur σ K r h => by cases h⟩
      ((spec_l1In_ok PM.std _ _ _ k).trans h)
  · cases h

abbrev spec_l3Val_T := (Int) → ((Bool) → PM.R) → PM.R
noncomputable def spec_l3Val_w (c : spec_l3Val_T) (ds : List PM.V) (k : PM.V → PM.R) : PM.R :=
  match ds with
  | [.int .i64 v] => c v (fun r0 => k (.bool r0))
  | _ => none
noncomputable def spec_l3Val_f (A : PM.Prims) (c_103 : spec_l1In_T) (v : Int) (k : (Bool) → PM.R) : PM.R :=
  c_103 v 0 65535 (fun r1 =>
    k r1)
noncomputable def spec_l3Val (A : PM.Prims) : spec_l3Val_T := spec_l3Val_f A (spec_l1In A)
noncomputable def spec_l3Val_L (A : PM.Prims) (c_103 : spec_l1In_T) (n : Nat) : PM.Lam := fun cur σ K =>
  match cur, σ, K with
  | _, _, _ => none
noncomputable def spec_l3Val_E (A : PM.Prims) (c_103 : spec_l1In_T) : PM.Env := ⟨[(103, ⟨[], spec_l1In_w c_103, none⟩)], [], [], [(0, [0]), (1, [2])], spec_l3Val_L A c_103 A.fuel⟩
theorem spec_l3Val_ok (A : PM.Prims) (c_103 : spec_l1In_T) (v : Int) (k : PM.V → PM.R) : PM.pfun A cx [] (spec_l3Val_E A c_103) Go.Proofs.Try.f197 [.int .i64 v] k = spec_l3Val_f A c_103 v (fun r0 => k (.bool r0)) := by kernel_rfl

theorem spec_l3Val_fn : PM.FnIs Try.prog 197 Try.f197 := .of Try.func197 (by kernel_rfl) (by kernel_rfl)
theorem spec_l3Val_g : PM.GOk Try.prog cx 197 ⟨[], spec_l3Val_w (spec_l3Val PM.std), none⟩ := by
  refine ⟨spec_l3Val_fn.enter, fun _ ds k r h => ?_, fun hm => absurd rfl hm, fun _ e => (by cases e)⟩
  change spec_l3Val_w (spec_l3Val PM.std) ds k = some r at h
  unfold spec_l3Val_w at h
  split at h
  · exact PM.pfun_ok (E := spec_l3Val_E PM.std (spec_l1In PM.std)) (L := fun n => spec_l3Val_L PM.std (spec_l1In PM.std) n) (N := PM.std.fuel) cx_ok (.cons spec_l1In_g .nil) mixed .nil spec_l3Val_fn (by kernel_rfl) ⟨rfl, fun _ _ _ => rfl, fun n cur σ K r h => by cases h⟩
      ((spec_l3Val_ok PM.std (spec_l1In PM.std) _ k).trans h)
  · cases h

abbrev spec_l4Regs_T := (List Int) → ((Bool) → PM.R) → PM.R
noncomputable def spec_l4Regs_w (c : spec_l4Regs_T) (ds : List PM.V) (k : PM.V → PM.R) : PM.R :=
  match ds with
  | [.arr (.ints 3 .i64 l)] => c l (fun r0 => k (.bool r0))
  | _ => none
noncomputable def spec_l4Regs_l0 (A : PM.Prims) (c_197 : spec_l3Val_T) : Nat → (List Int) → (Int) → ((Bool) → PM.R) → (Unit → PM.R) → PM.R
  | 0, _, _, _, _ => none
  | n + 1, l1, i2, kret_0, kx0_0 =>
    bif (A.lt i2 (A.ilen l1)) then
      bif (A.inb i2 (A.ilen l1)) then
        c_197 (A.iget l1 i2) (fun r3 =>
          bif (A.not r3) then
            kret_0 false
          else
            spec_l4Regs_l0 A c_197 n l1 (A.add .i64 i2 1) kret_0 kx0_0)
      else
        none
    else
      kx0_0 ()
noncomputable def spec_l4Regs_f (A : PM.Prims) (c_197 : spec_l3Val_T) (l : List Int) (k : (Bool) → PM.R) : PM.R :=
  bif (A.not (A.eq (A.ilen l) 4)) then
    k false
  else
    spec_l4Regs_l0 A c_197 A.fuel l 0 (fun t245 =>
      k t245) (fun _ =>
      k true)
noncomputable def spec_l4Regs (A : PM.Prims) : spec_l4Regs_T := spec_l4Regs_f A (spec_l3Val A)
noncomputable def spec_l4Regs_L (A : PM.Prims) (c_197 : spec_l3Val_T) (n : Nat) : PM.Lam := fun cur σ K =>
  match cur, σ, K with
  | 0, ⟨[(0, .arr (.ints 3 .i64 l1)), (3, .int .i64 i2)], []⟩, K => spec_l4Regs_l0 A c_197 n l1 i2 (fun t24 => K .ret ⟨[(2, .bool t24)], []⟩) (fun _ => K (.exit 0) ⟨[], []⟩)
  | _, _, _ => none
noncomputable def spec_l4Regs_E (A : PM.Prims) (c_197 : spec_l3Val_T) : PM.Env := ⟨[(197, ⟨[], spec_l3Val_w c_197, none⟩)], [], [(0, [0, 3], [2])], [(0, [0]), (1, [0, 6]), (2, [2]), (3, [0, 3]), (4, [0, 3, 10]), (5, [0, 3]), (6, [0, 3, 18]), (7, [2]), (8, [2])], spec_l4Regs_L A c_197 A.fuel⟩
theorem spec_l4Regs_l0_ok (A : PM.Prims) (c_197 : spec_l3Val_T) (n : Nat) (l1 : List Int) (i2 : Int) (K : Go.Exit → PM.S → PM.R) : spec_l4Regs_L A c_197 (n + 1) 0 ⟨[(0, .arr (.ints 3 .i64 l1)), (3, .int .i64 i2)], []⟩ K = PM.roundF A cx (PM.runD A cx (spec_l4Regs_E A c_197).inl (spec_l4Regs_E A c_197).Γ 3) (spec_l4Regs_E A c_197) (spec_l4Regs_L A c_197 n) 0 Go.Proofs.Try.f163 ⟨[(0, .arr (.ints 3 .i64 l1)), (3, .int .i64 i2)], []⟩ K := by kernel_rfl
theorem spec_l4Regs_ok (A : PM.Prims) (c_197 : spec_l3Val_T) (l : List Int) (k : PM.V → PM.R) : PM.pfun A cx [] (spec_l4Regs_E A c_197) Go.Proofs.Try.f163 [.arr (.ints 3 .i64 l)] k = spec_l4Regs_f A c_197 l (fun r0 => k (.bool r0)) := by kernel_rfl

theorem spec_l4Regs_fn : PM.FnIs Try.prog 163 Try.f163 := .of Try.func163 (by kernel_rfl) (by kernel_rfl)
theorem spec_l4Regs_g : PM.GOk Try.prog cx 163 ⟨[], spec_l4Regs_w (spec_l4Regs PM.std), none⟩ := by
  refine ⟨spec_l4Regs_fn.enter, fun _ ds k r h => ?_, fun hm => absurd rfl hm, fun _ e => (by cases e)⟩
  change spec_l4Regs_w (spec_l4Regs PM.std) ds k = some r at h
  unfold spec_l4Regs_w at h
  split at h
  · exact PM.pfun_ok (E := spec_l4Regs_E PM.std (spec_l3Val PM.std)) (L := fun n => spec_l4Regs_L PM.std (spec_l3Val PM.std) n) (N := PM.std.fuel) cx_ok (.cons spec_l3Val_g .nil) mixed .nil spec_l4Regs_fn (by kernel_rfl) ⟨rfl, fun cur σ K => by
      dsimp only [spec_l4Regs_L]
      split <;> rfl, fun n cur σ K r h => by
      dsimp only [spec_l4Regs_L] at h
      split at h
      · exact (spec_l4Regs_l0_ok PM.std (spec_l3Val PM.std) n _ _ K).symm.trans h
      · cases h⟩
      ((spec_l4Regs_ok PM.std (spec_l3Val PM.std) _ k).trans h)
  · cases h

abbrev spec_l13Ints_T := (List Int) → ((List Int) → PM.R) → PM.R
noncomputable def spec_l13Ints_w (c : spec_l13Ints_T) (ds : List PM.V) (k : PM.V → PM.R) : PM.R :=
  match ds with
  | [.arr (.ints 3 .i64 l)] => c l (fun r0 => k (.arr (.ints 3 .i64 r0)))
  | _ => none
noncomputable def spec_l13Ints_f (A : PM.Prims) (l : List Int) (k : (List Int) → PM.R) : PM.R :=
  bif (A.room (A.ilen []) (A.ilen l)) then
    k (A.iapp [] l)
  else
    none
noncomputable def spec_l13Ints (A : PM.Prims) : spec_l13Ints_T := spec_l13Ints_f A
noncomputable def spec_l13Ints_L (A : PM.Prims) (n : Nat) : PM.Lam := fun cur σ K =>
  match cur, σ, K with
  | _, _, _ => none
noncomputable def spec_l13Ints_E (A : PM.Prims) : PM.Env := ⟨[], [], [], [(0, [0]), (1, [2])], spec_l13Ints_L A A.fuel⟩
theorem spec_l13Ints_ok (A : PM.Prims) (l : List Int) (k : PM.V → PM.R) : PM.pfun A cx [] (spec_l13Ints_E A) Go.Proofs.Try.f168 [.arr (.ints 3 .i64 l)] k = spec_l13Ints_f A l (fun r0 => k (.arr (.ints 3 .i64 r0))) := by kernel_rfl

theorem spec_l13Ints_fn : PM.FnIs Try.prog 168 Try.f168 := .of Try.func168 (by kernel_rfl) (by kernel_rfl)
theorem spec_l13Ints_g : PM.GOk Try.prog cx 168 ⟨[], spec_l13Ints_w (spec_l13Ints PM.std), none⟩ := by
  refine ⟨spec_l13Ints_fn.enter, fun _ ds k r h => ?_, fun hm => absurd rfl hm, fun _ e => (by cases e)⟩
  change spec_l13Ints_w (spec_l13Ints PM.std) ds k = some r at h
  unfold spec_l13Ints_w at h
  split at h
  · exact PM.pfun_ok (E := spec_l13Ints_E PM.std) (L := fun n => spec_l13Ints_L PM.std n) (N := PM.std.fuel) cx_ok .nil mixed .nil spec_l13Ints_fn (by kernel_rfl) ⟨rfl, fun _ _ _ => rfl, fun n cur σ K r h => by cases h⟩
      ((spec_l13Ints_ok PM.std _ k).trans h)
  · cases h

abbrev spec_FamRegs_T := (Int) → (Int) → (Int) → (Bool) → (List Int) → (List (List Int)) → (List (List Int)) → (List Int) → (List (List Int)) → (List (List PM.C)) → ((List Int) → PM.R) → PM.R
noncomputable def spec_FamRegs_w (c : spec_FamRegs_T) (ds : List PM.V) (k : PM.V → PM.R) : PM.R :=
  match ds with
  | [.agg [.int .i64 f_Rv, .int .i64 f_Clock, .int .i64 f_Owner, .bool f_Lost, .arr (.ints 3 .i64 f_Regs), .arr (.vecs 161 2 f_Start), .arr (.vecs 225 3 f_Buf), .arr (.ints 3 .i64 f_Order), .arr (.vecs 161 2 f_Reads), .arr (.rows 214 f_Kids)]] => c f_Rv f_Clock f_Owner f_Lost f_Regs f_Start f_Buf f_Order f_Reads f_Kids (fun r0 => k (.arr (.ints 3 .i64 r0)))
  | _ => none
noncomputable def spec_FamRegs_l0 (A : PM.Prims) (c_163 : spec_l4Regs_T) (c_168 : spec_l13Ints_T) : Nat → (Int) → (Int) → (Int) → (Int) → (Bool) → (List Int) → (List (List Int)) → (List (List Int)) → (List Int) → (List (List Int)) → (List (List C)) → (List Int) → ((List Int) → PM.R) → PM.R
  | 0, _, _, _, _, _, _, _, _, _, _, _, _, _ => none
  | n + 1, i3, o04, o05, o06, o07, o08, o09, o010, o011, o012, o013, o114, kx0_0 =>
    bif (A.lt i3 (A.rlen o013)) then
      bif (A.inb i3 (A.ilen o114)) then
        bif (A.inb i3 (A.rlen o013)) then
          bif (A.eq (A.rint o013 i3 5) 1) then
            bif (A.inb i3 (A.rlen o013)) then
              c_163 (A.rsi o013 i3 6) (fun r15 =>
                bif r15 then
                  bif (A.inb i3 (A.rlen o013)) then
                    bif (A.inb 0 (A.ilen (A.rsi o013 i3 6))) then
                      bif (A.inb i3 (A.ilen (A.iset o114 i3 0))) then
                        spec_FamRegs_l0 A c_163 c_168 n (A.add .i64 i3 1) o04 o05 o06 o07 o08 o09 o010 o011 o012 o013 (A.iset (A.iset o114 i3 0) i3 (A.iget (A.rsi o013 i3 6) 0)) kx0_0
                      else
                        none
                    else
                      none
                  else
                    none
                else
                  spec_FamRegs_l0 A c_163 c_168 n (A.add .i64 i3 1) o04 o05 o06 o07 o08 o09 o010 o011 o012 o013 (A.iset o114 i3 0) kx0_0)
            else
              none
          else
            spec_FamRegs_l0 A c_163 c_168 n (A.add .i64 i3 1) o04 o05 o06 o07 o08 o09 o010 o011 o012 o013 (A.iset o114 i3 0) kx0_0
        else
          none
      else
        none
    else
      kx0_0 o114
noncomputable def spec_FamRegs_f (A : PM.Prims) (c_163 : spec_l4Regs_T) (c_168 : spec_l13Ints_T) (f_Rv : Int) (f_Clock : Int) (f_Owner : Int) (f_Lost : Bool) (f_Regs : List Int) (f_Start : List (List Int)) (f_Buf : List (List Int)) (f_Order : List Int) (f_Reads : List (List Int)) (f_Kids : List (List PM.C)) (k : (List Int) → PM.R) : PM.R :=
  c_163 f_Regs (fun r1 =>
    bif (A.not r1) then
      k []
    else
      bif (A.lt 3 (A.rlen f_Kids)) then
        k []
      else
        c_168 f_Regs (fun r2 =>
          spec_FamRegs_l0 A c_163 c_168 A.fuel 0 f_Rv f_Clock f_Owner f_Lost f_Regs f_Start f_Buf f_Order f_Reads f_Kids r2 (fun o01617 =>
            k o01617)))
noncomputable def spec_FamRegs (A : PM.Prims) : spec_FamRegs_T := spec_FamRegs_f A (spec_l4Regs A) (spec_l13Ints A)
noncomputable def spec_FamRegs_L (A : PM.Prims) (c_163 : spec_l4Regs_T) (c_168 : spec_l13Ints_T) (n : Nat) : PM.Lam := fun cur σ K =>
  match cur, σ, K with
  | 0, ⟨[(1, .pbox 0 0), (3, .sref 1), (4, .int .i64 i3)], [(0, .box [.int .i64 o04, .int .i64 o05, .int .i64 o06, .bool o07, .arr (.ints 3 .i64 o08), .arr (.vecs 161 2 o09), .arr (.vecs 225 3 o010), .arr (.ints 3 .i64 o011), .arr (.vecs 161 2 o012), .arr (.rows 214 o013)]), (1, .arr true (.ints 3 .i64 o114))]⟩, K => spec_FamRegs_l0 A c_163 c_168 n i3 o04 o05 o06 o07 o08 o09 o010 o011 o012 o013 o114 (fun o016 => K (.exit 0) ⟨[(3, .sref 0)], [(0, .arr true (.ints 3 .i64 o016))]⟩)
  | _, _, _ => none
noncomputable def spec_FamRegs_E (A : PM.Prims) (c_163 : spec_l4Regs_T) (c_168 : spec_l13Ints_T) : PM.Env := ⟨[(163, ⟨[], spec_l4Regs_w c_163, none⟩), (168, ⟨[], spec_l13Ints_w c_168, none⟩)], [], [(0, [1, 3, 4], [2, 3])], [(0, [1]), (1, [1, 14]), (2, [2]), (3, [1, 3]), (4, [1, 3, 4]), (5, [1, 3, 4, 23]), (6, [1, 3, 4]), (7, [1, 3, 4]), (8, [1, 3, 4, 44]), (9, [1, 3, 4]), (10, [2])], spec_FamRegs_L A c_163 c_168 A.fuel⟩
theorem spec_FamRegs_l0_ok (A : PM.Prims) (c_163 : spec_l4Regs_T) (c_168 : spec_l13Ints_T) (n : Nat) (i3 : Int) (o04 : Int) (o05 : Int) (o06 : Int) (o07 : Bool) (o08 : List Int) (o09 : List (List Int)) (o010 : List (List Int)) (o011 : List Int) (o012 : List (List Int)) (o013 : List (List C)) (o114 : List Int) (K : Go.Exit → PM.S → PM.R) : spec_FamRegs_L A c_163 c_168 (n + 1) 0 ⟨[(1, .pbox 0 0), (3, .sref 1), (4, .int .i64 i3)], [(0, .box [.int .i64 o04, .int .i64 o05, .int .i64 o06, .bool o07, .arr (.ints 3 .i64 o08), .arr (.vecs 161 2 o09), .arr (.vecs 225 3 o010), .arr (.ints 3 .i64 o011), .arr (.vecs 161 2 o012), .arr (.rows 214 o013)]), (1, .arr true (.ints 3 .i64 o114))]⟩ K = PM.roundF A cx (PM.runD A cx (spec_FamRegs_E A c_163 c_168).inl (spec_FamRegs_E A c_163 c_168).Γ 3) (spec_FamRegs_E A c_163 c_168) (spec_FamRegs_L A c_163 c_168 n) 0 Go.Proofs.Try.f77 ⟨[(1, .pbox 0 0), (3, .sref 1), (4, .int .i64 i3)], [(0, .box [.int .i64 o04, .int .i64 o05, .int .i64 o06, .bool o07, .arr (.ints 3 .i64 o08), .arr (.vecs 161 2 o09), .arr (.vecs 225 3 o010), .arr (.ints 3 .i64 o011), .arr (.vecs 161 2 o012), .arr (.rows 214 o013)]), (1, .arr true (.ints 3 .i64 o114))]⟩ K := by kernel_rfl
theorem spec_FamRegs_ok (A : PM.Prims) (c_163 : spec_l4Regs_T) (c_168 : spec_l13Ints_T) (f_Rv : Int) (f_Clock : Int) (f_Owner : Int) (f_Lost : Bool) (f_Regs : List Int) (f_Start : List (List Int)) (f_Buf : List (List Int)) (f_Order : List Int) (f_Reads : List (List Int)) (f_Kids : List (List PM.C)) (k : PM.V → PM.R) : PM.pfun A cx [] (spec_FamRegs_E A c_163 c_168) Go.Proofs.Try.f77 [.agg [.int .i64 f_Rv, .int .i64 f_Clock, .int .i64 f_Owner, .bool f_Lost, .arr (.ints 3 .i64 f_Regs), .arr (.vecs 161 2 f_Start), .arr (.vecs 225 3 f_Buf), .arr (.ints 3 .i64 f_Order), .arr (.vecs 161 2 f_Reads), .arr (.rows 214 f_Kids)]] k = spec_FamRegs_f A c_163 c_168 f_Rv f_Clock f_Owner f_Lost f_Regs f_Start f_Buf f_Order f_Reads f_Kids (fun r0 => k (.arr (.ints 3 .i64 r0))) := by kernel_rfl

theorem spec_FamRegs_fn : PM.FnIs Try.prog 77 Try.f77 := .of Try.func77 (by kernel_rfl) (by kernel_rfl)
theorem spec_FamRegs_g : PM.GOk Try.prog cx 77 ⟨[], spec_FamRegs_w (spec_FamRegs PM.std), none⟩ := by
  refine ⟨spec_FamRegs_fn.enter, fun _ ds k r h => ?_, fun hm => absurd rfl hm, fun _ e => (by cases e)⟩
  change spec_FamRegs_w (spec_FamRegs PM.std) ds k = some r at h
  unfold spec_FamRegs_w at h
  split at h
  · exact PM.pfun_ok (E := spec_FamRegs_E PM.std (spec_l4Regs PM.std) (spec_l13Ints PM.std)) (L := fun n => spec_FamRegs_L PM.std (spec_l4Regs PM.std) (spec_l13Ints PM.std) n) (N := PM.std.fuel) cx_ok (.cons spec_l4Regs_g (.cons spec_l13Ints_g .nil)) mixed .nil spec_FamRegs_fn (by kernel_rfl) ⟨rfl, fun cur σ K => by
      dsimp only [spec_FamRegs_L]
      split <;> rfl, fun n cur σ K r h => by
      dsimp only [spec_FamRegs_L] at h
      split at h
      · exact (spec_FamRegs_l0_ok PM.std (spec_l4Regs PM.std) (spec_l13Ints PM.std) n _ _ _ _ _ _ _ _ _ _ _ _ K).symm.trans h
      · cases h⟩
      ((spec_FamRegs_ok PM.std (spec_l4Regs PM.std) (spec_l13Ints PM.std) _ _ _ _ _ _ _ _ _ _ k).trans h)
  · cases h

abbrev impl_within_T := (Int) → (Int) → (Int) → ((Bool) → PM.R) → PM.R
noncomputable def impl_within_w (c : impl_within_T) (ds : List PM.V) (k : PM.V → PM.R) : PM.R :=
  match ds with
  | [.int .i64 x, .int .i64 lo, .int .i64 hi] => c x lo hi (fun r0 => k (.bool r0))
  | _ => none
noncomputable def impl_within_f (A : PM.Prims) (x : Int) (lo : Int) (hi : Int) (k : (Bool) → PM.R) : PM.R :=
  bif (A.le lo x) then
    k (A.le x hi)
  else
    k false
noncomputable def impl_within (A : PM.Prims) : impl_within_T := impl_within_f A
noncomputable def impl_within_L (A : PM.Prims) (n : Nat) : PM.Lam := fun cur σ K =>
  match cur, σ, K with
  | _, _, _ => none
noncomputable def impl_within_E (A : PM.Prims) : PM.Env := ⟨[], [], [], [(0, [0, 1, 2]), (1, [6])], impl_within_L A A.fuel⟩
theorem impl_within_ok (A : PM.Prims) (x : Int) (lo : Int) (hi : Int) (k : PM.V → PM.R) : PM.pfun A cx [] (impl_within_E A) Go.Proofs.Try.f134 [.int .i64 x, .int .i64 lo, .int .i64 hi] k = impl_within_f A x lo hi (fun r0 => k (.bool r0)) := by kernel_rfl

theorem impl_within_fn : PM.FnIs Try.prog 134 Try.f134 := .of Try.func134 (by kernel_rfl) (by kernel_rfl)
theorem impl_within_g : PM.GOk Try.prog cx 134 ⟨[], impl_within_w (impl_within PM.std), none⟩ := by
  refine ⟨impl_within_fn.enter, fun _ ds k r h => ?_, fun hm => absurd rfl hm, fun _ e => (by cases e)⟩
  change impl_within_w (impl_within PM.std) ds k = some r at h
  unfold impl_within_w at h
  split at h
  · exact PM.pfun_ok (E := impl_within_E PM.std) (L := fun n => impl_within_L PM.std n) (N := PM.std.fuel) cx_ok .nil mixed .nil impl_within_fn (by kernel_rfl) ⟨rfl, fun _ _ _ => rfl, fun n cur σ K r h => by cases h⟩
      ((impl_within_ok PM.std _ _ _ k).trans h)
  · cases h

abbrev impl_isValue_T := (Int) → ((Bool) → PM.R) → PM.R
noncomputable def impl_isValue_w (c : impl_isValue_T) (ds : List PM.V) (k : PM.V → PM.R) : PM.R :=
  match ds with
  | [.int .i64 v] => c v (fun r0 => k (.bool r0))
  | _ => none
noncomputable def impl_isValue_f (A : PM.Prims) (c_134 : impl_within_T) (v : Int) (k : (Bool) → PM.R) : PM.R :=
  c_134 v 0 65535 (fun r1 =>
    k r1)
noncomputable def impl_isValue (A : PM.Prims) : impl_isValue_T := impl_isValue_f A (impl_within A)
noncomputable def impl_isValue_L (A : PM.Prims) (c_134 : impl_within_T) (n : Nat) : PM.Lam := fun cur σ K =>
  match cur, σ, K with
  | _, _, _ => none
noncomputable def impl_isValue_E (A : PM.Prims) (c_134 : impl_within_T) : PM.Env := ⟨[(134, ⟨[], impl_within_w c_134, none⟩)], [], [], [(0, [0]), (1, [2])], impl_isValue_L A c_134 A.fuel⟩
theorem impl_isValue_ok (A : PM.Prims) (c_134 : impl_within_T) (v : Int) (k : PM.V → PM.R) : PM.pfun A cx [] (impl_isValue_E A c_134) Go.Proofs.Try.f193 [.int .i64 v] k = impl_isValue_f A c_134 v (fun r0 => k (.bool r0)) := by kernel_rfl

theorem impl_isValue_fn : PM.FnIs Try.prog 193 Try.f193 := .of Try.func193 (by kernel_rfl) (by kernel_rfl)
theorem impl_isValue_g : PM.GOk Try.prog cx 193 ⟨[], impl_isValue_w (impl_isValue PM.std), none⟩ := by
  refine ⟨impl_isValue_fn.enter, fun _ ds k r h => ?_, fun hm => absurd rfl hm, fun _ e => (by cases e)⟩
  change impl_isValue_w (impl_isValue PM.std) ds k = some r at h
  unfold impl_isValue_w at h
  split at h
  · exact PM.pfun_ok (E := impl_isValue_E PM.std (impl_within PM.std)) (L := fun n => impl_isValue_L PM.std (impl_within PM.std) n) (N := PM.std.fuel) cx_ok (.cons impl_within_g .nil) mixed .nil impl_isValue_fn (by kernel_rfl) ⟨rfl, fun _ _ _ => rfl, fun n cur σ K r h => by cases h⟩
      ((impl_isValue_ok PM.std (impl_within PM.std) _ k).trans h)
  · cases h

abbrev impl_areValues_T := (List Int) → (Int) → ((Bool) → PM.R) → PM.R
noncomputable def impl_areValues_w (c : impl_areValues_T) (ds : List PM.V) (k : PM.V → PM.R) : PM.R :=
  match ds with
  | [.arr (.ints 3 .i64 l), .int .i64 n_] => c l n_ (fun r0 => k (.bool r0))
  | _ => none
noncomputable def impl_areValues_l0 (A : PM.Prims) (c_193 : impl_isValue_T) : Nat → (List Int) → (Int) → (List Int) → (Int) → (Int) → ((Bool) → PM.R) → ((List Int) → (Int) → PM.R) → PM.R
  | 0, _, _, _, _, _, _, _ => none
  | n + 1, l1, n2, t73, t84, t95, kret_0, kx0_0 =>
    bif (A.lt t95 t84) then
      bif (A.inb t95 (A.ilen t73)) then
        c_193 (A.iget t73 t95) (fun r6 =>
          bif (A.not r6) then
            kret_0 false
          else
            impl_areValues_l0 A c_193 n l1 n2 t73 t84 (A.add .i64 t95 1) kret_0 kx0_0)
      else
        none
    else
      kx0_0 l1 n2
noncomputable def impl_areValues_f (A : PM.Prims) (c_193 : impl_isValue_T) (l : List Int) (n_ : Int) (k : (Bool) → PM.R) : PM.R :=
  impl_areValues_l0 A c_193 A.fuel l n_ l (A.ilen l) 0 (fun t4710 =>
    k t4710) (fun l811 n912 =>
    k (A.eq (A.ilen l811) n912))
noncomputable def impl_areValues (A : PM.Prims) : impl_areValues_T := impl_areValues_f A (impl_isValue A)
noncomputable def impl_areValues_L (A : PM.Prims) (c_193 : impl_isValue_T) (n : Nat) : PM.Lam := fun cur σ K =>
  match cur, σ, K with
  | 0, ⟨[(0, .arr (.ints 3 .i64 l1)), (1, .int .i64 n2), (7, .arr (.ints 3 .i64 t73)), (8, .int .i64 t84), (9, .int .i64 t95)], []⟩, K => impl_areValues_l0 A c_193 n l1 n2 t73 t84 t95 (fun t47 => K .ret ⟨[(4, .bool t47)], []⟩) (fun l8 n9 => K (.exit 0) ⟨[(0, .arr (.ints 3 .i64 l8)), (1, .int .i64 n9)], []⟩)
  | _, _, _ => none
noncomputable def impl_areValues_E (A : PM.Prims) (c_193 : impl_isValue_T) : PM.Env := ⟨[(193, ⟨[], impl_isValue_w c_193, none⟩)], [], [(0, [0, 1, 7, 8, 9], [0, 1, 4])], [(0, [0, 1]), (1, [0, 1, 7, 8, 9]), (2, [0, 1, 7, 8, 9, 10]), (3, [0, 1, 6, 7, 8, 9]), (4, [0, 1, 7, 8, 9, 15]), (5, [4]), (6, [0, 1, 7, 8, 9]), (7, [4])], impl_areValues_L A c_193 A.fuel⟩
theorem impl_areValues_l0_ok (A : PM.Prims) (c_193 : impl_isValue_T) (n : Nat) (l1 : List Int) (n2 : Int) (t73 : List Int) (t84 : Int) (t95 : Int) (K : Go.Exit → PM.S → PM.R) : impl_areValues_L A c_193 (n + 1) 0 ⟨[(0, .arr (.ints 3 .i64 l1)), (1, .int .i64 n2), (7, .arr (.ints 3 .i64 t73)), (8, .int .i64 t84), (9, .int .i64 t95)], []⟩ K = PM.roundF A cx (PM.runD A cx (impl_areValues_E A c_193).inl (impl_areValues_E A c_193).Γ 3) (impl_areValues_E A c_193) (impl_areValues_L A c_193 n) 0 Go.Proofs.Try.f97 ⟨[(0, .arr (.ints 3 .i64 l1)), (1, .int .i64 n2), (7, .arr (.ints 3 .i64 t73)), (8, .int .i64 t84), (9, .int .i64 t95)], []⟩ K := by kernel_rfl
theorem impl_areValues_ok (A : PM.Prims) (c_193 : impl_isValue_T) (l : List Int) (n_ : Int) (k : PM.V → PM.R) : PM.pfun A cx [] (impl_areValues_E A c_193) Go.Proofs.Try.f97 [.arr (.ints 3 .i64 l), .int .i64 n_] k = impl_areValues_f A c_193 l n_ (fun r0 => k (.bool r0)) := by kernel_rfl

theorem impl_areValues_fn : PM.FnIs Try.prog 97 Try.f97 := .of Try.func97 (by kernel_rfl) (by kernel_rfl)
theorem impl_areValues_g : PM.GOk Try.prog cx 97 ⟨[], impl_areValues_w (impl_areValues PM.std), none⟩ := by
  refine ⟨impl_areValues_fn.enter, fun _ ds k r h => ?_, fun hm => absurd rfl hm, fun _ e => (by cases e)⟩
  change impl_areValues_w (impl_areValues PM.std) ds k = some r at h
  unfold impl_areValues_w at h
  split at h
  · exact PM.pfun_ok (E := impl_areValues_E PM.std (impl_isValue PM.std)) (L := fun n => impl_areValues_L PM.std (impl_isValue PM.std) n) (N := PM.std.fuel) cx_ok (.cons impl_isValue_g .nil) mixed .nil impl_areValues_fn (by kernel_rfl) ⟨rfl, fun cur σ K => by
      dsimp only [impl_areValues_L]
      split <;> rfl, fun n cur σ K r h => by
      dsimp only [impl_areValues_L] at h
      split at h
      · exact (impl_areValues_l0_ok PM.std (impl_isValue PM.std) n _ _ _ _ _ K).symm.trans h
      · cases h⟩
      ((impl_areValues_ok PM.std (impl_isValue PM.std) _ _ k).trans h)
  · cases h

abbrev impl_copyInts_T := (List Int) → ((List Int) → PM.R) → PM.R
noncomputable def impl_copyInts_w (c : impl_copyInts_T) (ds : List PM.V) (k : PM.V → PM.R) : PM.R :=
  match ds with
  | [.arr (.ints 3 .i64 l)] => c l (fun r0 => k (.arr (.ints 3 .i64 r0)))
  | _ => none
noncomputable def impl_copyInts_f (A : PM.Prims) (l : List Int) (k : (List Int) → PM.R) : PM.R :=
  bif (A.room (A.ilen []) (A.ilen l)) then
    k (A.iapp [] l)
  else
    none
noncomputable def impl_copyInts (A : PM.Prims) : impl_copyInts_T := impl_copyInts_f A
noncomputable def impl_copyInts_L (A : PM.Prims) (n : Nat) : PM.Lam := fun cur σ K =>
  match cur, σ, K with
  | _, _, _ => none
noncomputable def impl_copyInts_E (A : PM.Prims) : PM.Env := ⟨[], [], [], [(0, [0]), (1, [2])], impl_copyInts_L A A.fuel⟩
theorem impl_copyInts_ok (A : PM.Prims) (l : List Int) (k : PM.V → PM.R) : PM.pfun A cx [] (impl_copyInts_E A) Go.Proofs.Try.f101 [.arr (.ints 3 .i64 l)] k = impl_copyInts_f A l (fun r0 => k (.arr (.ints 3 .i64 r0))) := by kernel_rfl

theorem impl_copyInts_fn : PM.FnIs Try.prog 101 Try.f101 := .of Try.func101 (by kernel_rfl) (by kernel_rfl)
theorem impl_copyInts_g : PM.GOk Try.prog cx 101 ⟨[], impl_copyInts_w (impl_copyInts PM.std), none⟩ := by
  refine ⟨impl_copyInts_fn.enter, fun _ ds k r h => ?_, fun hm => absurd rfl hm, fun _ e => (by cases e)⟩
  change impl_copyInts_w (impl_copyInts PM.std) ds k = some r at h
  unfold impl_copyInts_w at h
  split at h
  · exact PM.pfun_ok (E := impl_copyInts_E PM.std) (L := fun n => impl_copyInts_L PM.std n) (N := PM.std.fuel) cx_ok .nil mixed .nil impl_copyInts_fn (by kernel_rfl) ⟨rfl, fun _ _ _ => rfl, fun n cur σ K r h => by cases h⟩
      ((impl_copyInts_ok PM.std _ k).trans h)
  · cases h

abbrev impl_FamRegs_T := (Int) → (Int) → (Int) → (Bool) → (List Int) → (List (List Int)) → (List (List Int)) → (List Int) → (List (List Int)) → (List (List PM.C)) → ((List Int) → PM.R) → PM.R
noncomputable def impl_FamRegs_w (c : impl_FamRegs_T) (ds : List PM.V) (k : PM.V → PM.R) : PM.R :=
  match ds with
  | [.agg [.int .i64 f_Rv, .int .i64 f_Clock, .int .i64 f_Owner, .bool f_Lost, .arr (.ints 3 .i64 f_Regs), .arr (.vecs 161 2 f_Start), .arr (.vecs 225 3 f_Buf), .arr (.ints 3 .i64 f_Order), .arr (.vecs 161 2 f_Reads), .arr (.rows 214 f_Kids)]] => c f_Rv f_Clock f_Owner f_Lost f_Regs f_Start f_Buf f_Order f_Reads f_Kids (fun r0 => k (.arr (.ints 3 .i64 r0)))
  | _ => none
noncomputable def impl_FamRegs_l0 (A : PM.Prims) (c_97 : impl_areValues_T) (c_101 : impl_copyInts_T) : Nat → (List (List C)) → (Int) → (Int) → (List Int) → ((List Int) → PM.R) → PM.R
  | 0, _, _, _, _, _ => none
  | n + 1, t203, t214, t225, o06, kx0_0 =>
    bif (A.lt t225 t214) then
      bif (A.inb t225 (A.rlen t203)) then
        bif (A.inb t225 (A.ilen o06)) then
          bif (A.eq (A.rint t203 t225 5) 1) then
            c_97 (A.rsi t203 t225 6) 4 (fun r7 =>
              bif r7 then
                bif (A.inb 0 (A.ilen (A.rsi t203 t225 6))) then
                  bif (A.inb t225 (A.ilen (A.iset o06 t225 0))) then
                    impl_FamRegs_l0 A c_97 c_101 n t203 t214 (A.add .i64 t225 1) (A.iset (A.iset o06 t225 0) t225 (A.iget (A.rsi t203 t225 6) 0)) kx0_0
                  else
                    none
                else
                  none
              else
                impl_FamRegs_l0 A c_97 c_101 n t203 t214 (A.add .i64 t225 1) (A.iset o06 t225 0) kx0_0)
          else
            impl_FamRegs_l0 A c_97 c_101 n t203 t214 (A.add .i64 t225 1) (A.iset o06 t225 0) kx0_0
        else
          none
      else
        none
    else
      kx0_0 o06
noncomputable def impl_FamRegs_f (A : PM.Prims) (c_97 : impl_areValues_T) (c_101 : impl_copyInts_T) (f_Rv : Int) (f_Clock : Int) (f_Owner : Int) (f_Lost : Bool) (f_Regs : List Int) (f_Start : List (List Int)) (f_Buf : List (List Int)) (f_Order : List Int) (f_Reads : List (List Int)) (f_Kids : List (List PM.C)) (k : (List Int) → PM.R) : PM.R :=
  c_97 f_Regs 4 (fun r1 =>
    bif (A.not r1) then
      k []
    else
      bif (A.lt 3 (A.rlen f_Kids)) then
        k []
      else
        c_101 f_Regs (fun r2 =>
          impl_FamRegs_l0 A c_97 c_101 A.fuel f_Kids (A.rlen f_Kids) 0 r2 (fun o089 =>
            k o089)))
noncomputable def impl_FamRegs (A : PM.Prims) : impl_FamRegs_T := impl_FamRegs_f A (impl_areValues A) (impl_copyInts A)
noncomputable def impl_FamRegs_L (A : PM.Prims) (c_97 : impl_areValues_T) (c_101 : impl_copyInts_T) (n : Nat) : PM.Lam := fun cur σ K =>
  match cur, σ, K with
  | 0, ⟨[(3, .sref 0), (20, .arr (.rows 214 t203)), (21, .int .i64 t214), (22, .int .i64 t225)], [(0, .arr true (.ints 3 .i64 o06))]⟩, K => impl_FamRegs_l0 A c_97 c_101 n t203 t214 t225 o06 (fun o08 => K (.exit 0) ⟨[(3, .sref 0)], [(0, .arr true (.ints 3 .i64 o08))]⟩)
  | _, _, _ => none
noncomputable def impl_FamRegs_E (A : PM.Prims) (c_97 : impl_areValues_T) (c_101 : impl_copyInts_T) : PM.Env := ⟨[(97, ⟨[], impl_areValues_w c_97, none⟩), (101, ⟨[], impl_copyInts_w c_101, none⟩)], [], [(0, [3, 20, 21, 22], [2, 3])], [(0, [1]), (1, [1, 15]), (2, [2]), (3, [1, 3]), (4, [3, 20, 21, 22]), (5, [3, 20, 21, 22, 23]), (6, [3, 4, 5, 20, 21, 22]), (7, [3, 4, 5, 20, 21, 22]), (8, [3, 4, 5, 20, 21, 22, 37]), (9, [3, 20, 21, 22]), (10, [3, 20, 21, 22]), (11, [2])], impl_FamRegs_L A c_97 c_101 A.fuel⟩
theorem impl_FamRegs_l0_ok (A : PM.Prims) (c_97 : impl_areValues_T) (c_101 : impl_copyInts_T) (n : Nat) (t203 : List (List C)) (t214 : Int) (t225 : Int) (o06 : List Int) (K : Go.Exit → PM.S → PM.R) : impl_FamRegs_L A c_97 c_101 (n + 1) 0 ⟨[(3, .sref 0), (20, .arr (.rows 214 t203)), (21, .int .i64 t214), (22, .int .i64 t225)], [(0, .arr true (.ints 3 .i64 o06))]⟩ K = PM.roundF A cx (PM.runD A cx (impl_FamRegs_E A c_97 c_101).inl (impl_FamRegs_E A c_97 c_101).Γ 3) (impl_FamRegs_E A c_97 c_101) (impl_FamRegs_L A c_97 c_101 n) 0 Go.Proofs.Try.f78 ⟨[(3, .sref 0), (20, .arr (.rows 214 t203)), (21, .int .i64 t214), (22, .int .i64 t225)], [(0, .arr true (.ints 3 .i64 o06))]⟩ K := by kernel_rfl
theorem impl_FamRegs_ok (A : PM.Prims) (c_97 : impl_areValues_T) (c_101 : impl_copyInts_T) (f_Rv : Int) (f_Clock : Int) (f_Owner : Int) (f_Lost : Bool) (f_Regs : List Int) (f_Start : List (List Int)) (f_Buf : List (List Int)) (f_Order : List Int) (f_Reads : List (List Int)) (f_Kids : List (List PM.C)) (k : PM.V → PM.R) : PM.pfun A cx [] (impl_FamRegs_E A c_97 c_101) Go.Proofs.Try.f78 [.agg [.int .i64 f_Rv, .int .i64 f_Clock, .int .i64 f_Owner, .bool f_Lost, .arr (.ints 3 .i64 f_Regs), .arr (.vecs 161 2 f_Start), .arr (.vecs 225 3 f_Buf), .arr (.ints 3 .i64 f_Order), .arr (.vecs 161 2 f_Reads), .arr (.rows 214 f_Kids)]] k = impl_FamRegs_f A c_97 c_101 f_Rv f_Clock f_Owner f_Lost f_Regs f_Start f_Buf f_Order f_Reads f_Kids (fun r0 => k (.arr (.ints 3 .i64 r0))) := by kernel_rfl

theorem impl_FamRegs_fn : PM.FnIs Try.prog 78 Try.f78 := .of Try.func78 (by kernel_rfl) (by kernel_rfl)
theorem impl_FamRegs_g : PM.GOk Try.prog cx 78 ⟨[], impl_FamRegs_w (impl_FamRegs PM.std), none⟩ := by
  refine ⟨impl_FamRegs_fn.enter, fun _ ds k r h => ?_, fun hm => absurd rfl hm, fun _ e => (by cases e)⟩
  change impl_FamRegs_w (impl_FamRegs PM.std) ds k = some r at h
  unfold impl_FamRegs_w at h
  split at h
  · exact PM.pfun_ok (E := impl_FamRegs_E PM.std (impl_areValues PM.std) (impl_copyInts PM.std)) (L := fun n => impl_FamRegs_L PM.std (impl_areValues PM.std) (impl_copyInts PM.std) n) (N := PM.std.fuel) cx_ok (.cons impl_areValues_g (.cons impl_copyInts_g .nil)) mixed .nil impl_FamRegs_fn (by kernel_rfl) ⟨rfl, fun cur σ K => by
      dsimp only [impl_FamRegs_L]
      split <;> rfl, fun n cur σ K r h => by
      dsimp only [impl_FamRegs_L] at h
      split at h
      · exact (impl_FamRegs_l0_ok PM.std (impl_areValues PM.std) (impl_copyInts PM.std) n _ _ _ _ K).symm.trans h
      · cases h⟩
      ((impl_FamRegs_ok PM.std (impl_areValues PM.std) (impl_copyInts PM.std) _ _ _ _ _ _ _ _ _ _ k).trans h)
  · cases h

abbrev laws_markIntS_T := (List Int) → (Int) → ((Int) → (List Int) → PM.R) → PM.R
noncomputable def laws_markIntS_w (c : laws_markIntS_T) (ds : List PM.V) (k : PM.V → PM.R) : PM.R :=
  match ds with
  | [.arr (.ints 3 .i64 a), .int .i64 k_] => c a k_ (fun r0 o0 => k (.tup [.int .i64 r0, .arr (.ints 3 .i64 o0)]))
  | _ => none
noncomputable def laws_markIntS_l0 (A : PM.Prims) : Nat → (Int) → (Int) → (List Int) → ((Int) → (List Int) → PM.R) → PM.R
  | 0, _, _, _, _ => none
  | n + 1, k1, i2, o03, kx0_0 =>
    bif (A.lt i2 (A.ilen o03)) then
      bif (A.inb i2 (A.ilen o03)) then
        laws_markIntS_l0 A n (A.add .i64 k1 1) (A.add .i64 i2 1) (A.iset o03 i2 k1) kx0_0
      else
        none
    else
      kx0_0 k1 o03
noncomputable def laws_markIntS_f (A : PM.Prims) (a : List Int) (k_ : Int) (k : (Int) → (List Int) → PM.R) : PM.R :=
  laws_markIntS_l0 A A.fuel k_ 0 a (fun k46 o057 =>
    k k46 o057)
noncomputable def laws_markIntS (A : PM.Prims) : laws_markIntS_T := laws_markIntS_f A
noncomputable def laws_markIntS_L (A : PM.Prims) (n : Nat) : PM.Lam := fun cur σ K =>
  match cur, σ, K with
  | 0, ⟨[(0, .sref 0), (1, .int .i64 k1), (5, .int .i64 i2)], [(0, .arr false (.ints 3 .i64 o03))]⟩, K => laws_markIntS_l0 A n k1 i2 o03 (fun k4 o05 => K (.exit 0) ⟨[(0, .sref 0), (1, .int .i64 k4)], [(0, .arr false (.ints 3 .i64 o05))]⟩)
  | _, _, _ => none
noncomputable def laws_markIntS_E (A : PM.Prims) : PM.Env := ⟨[], [], [(0, [0, 1, 5], [0, 1, 4])], [(0, [0, 1]), (1, [0, 1, 5]), (2, [0, 1, 5, 9]), (3, [0, 1, 5]), (4, [0, 1, 5]), (5, [0, 1, 5]), (6, [0, 4])], laws_markIntS_L A A.fuel⟩
theorem laws_markIntS_l0_ok (A : PM.Prims) (n : Nat) (k1 : Int) (i2 : Int) (o03 : List Int) (K : Go.Exit → PM.S → PM.R) : laws_markIntS_L A (n + 1) 0 ⟨[(0, .sref 0), (1, .int .i64 k1), (5, .int .i64 i2)], [(0, .arr false (.ints 3 .i64 o03))]⟩ K = PM.roundF A cx (PM.runD A cx (laws_markIntS_E A).inl (laws_markIntS_E A).Γ 3) (laws_markIntS_E A) (laws_markIntS_L A n) 0 Go.Proofs.Try.f54 ⟨[(0, .sref 0), (1, .int .i64 k1), (5, .int .i64 i2)], [(0, .arr false (.ints 3 .i64 o03))]⟩ K := by kernel_rfl
theorem laws_markIntS_ok (A : PM.Prims) (a : List Int) (k_ : Int) (k : PM.V → PM.R) : PM.pfun A cx [true, false] (laws_markIntS_E A) Go.Proofs.Try.f54 [.arr (.ints 3 .i64 a), .int .i64 k_] k = laws_markIntS_f A a k_ (fun r0 o0 => k (.tup [.int .i64 r0, .arr (.ints 3 .i64 o0)])) := by kernel_rfl

theorem laws_markIntS_fn : PM.FnIs Try.prog 54 Try.f54 := .of Try.func54 (by kernel_rfl) (by kernel_rfl)
theorem laws_markIntS_g : PM.GOk Try.prog cx 54 ⟨[true, false], laws_markIntS_w (laws_markIntS PM.std), none⟩ := by
  refine ⟨laws_markIntS_fn.enter, fun hm => (by cases hm), fun _ ds k r h => ?_, fun _ e => (by cases e)⟩
  change laws_markIntS_w (laws_markIntS PM.std) ds k = some r at h
  unfold laws_markIntS_w at h
  split at h
  · exact PM.pfun_okM (List.cons_ne_nil _ _) (E := laws_markIntS_E PM.std) (L := fun n => laws_markIntS_L PM.std n) (N := PM.std.fuel) cx_ok .nil mixed .nil laws_markIntS_fn (by kernel_rfl) ⟨rfl, fun cur σ K => by
      dsimp only [laws_markIntS_L]
      split <;> rfl, fun n cur σ K r h => by
      dsimp only [laws_markIntS_L] at h
      split at h
      · exact (laws_markIntS_l0_ok PM.std n _ _ _ K).symm.trans h
      · cases h⟩
      ((laws_markIntS_ok PM.std _ _ k).trans h)
  · cases h

abbrev laws_heldIntS_T := (List Int) → (Int) → ((Int) → PM.R) → PM.R
noncomputable def laws_heldIntS_w (c : laws_heldIntS_T) (ds : List PM.V) (k : PM.V → PM.R) : PM.R :=
  match ds with
  | [.arr (.ints 3 .i64 a), .int .i64 k_] => c a k_ (fun r0 => k (.int .i64 r0))
  | _ => none
noncomputable def laws_heldIntS_l0 (A : PM.Prims) : Nat → (List Int) → (Int) → (Int) → ((Int) → PM.R) → ((Int) → PM.R) → PM.R
  | 0, _, _, _, _, _ => none
  | n + 1, a1, k2, i3, kret_0, kx0_0 =>
    bif (A.lt i3 (A.ilen a1)) then
      bif (A.inb i3 (A.ilen a1)) then
        bif (A.not (A.eq (A.iget a1 i3) k2)) then
          kret_0 (-1)
        else
          laws_heldIntS_l0 A n a1 (A.add .i64 k2 1) (A.add .i64 i3 1) kret_0 kx0_0
      else
        none
    else
      kx0_0 k2
noncomputable def laws_heldIntS_f (A : PM.Prims) (a : List Int) (k_ : Int) (k : (Int) → PM.R) : PM.R :=
  laws_heldIntS_l0 A A.fuel a k_ 0 (fun t446 =>
    k t446) (fun k57 =>
    k k57)
noncomputable def laws_heldIntS (A : PM.Prims) : laws_heldIntS_T := laws_heldIntS_f A
noncomputable def laws_heldIntS_L (A : PM.Prims) (n : Nat) : PM.Lam := fun cur σ K =>
  match cur, σ, K with
  | 0, ⟨[(0, .arr (.ints 3 .i64 a1)), (1, .int .i64 k2), (5, .int .i64 i3)], []⟩, K => laws_heldIntS_l0 A n a1 k2 i3 (fun t44 => K .ret ⟨[(4, .int .i64 t44)], []⟩) (fun k5 => K (.exit 0) ⟨[(1, .int .i64 k5)], []⟩)
  | _, _, _ => none
noncomputable def laws_heldIntS_E (A : PM.Prims) : PM.Env := ⟨[], [], [(0, [0, 1, 5], [1, 4])], [(0, [0, 1]), (1, [0, 1, 5]), (2, [0, 1, 5, 9]), (3, [0, 1, 5]), (4, [0, 1, 5, 17]), (5, [4]), (6, [0, 1, 5]), (7, [4])], laws_heldIntS_L A A.fuel⟩
theorem laws_heldIntS_l0_ok (A : PM.Prims) (n : Nat) (a1 : List Int) (k2 : Int) (i3 : Int) (K : Go.Exit → PM.S → PM.R) : laws_heldIntS_L A (n + 1) 0 ⟨[(0, .arr (.ints 3 .i64 a1)), (1, .int .i64 k2), (5, .int .i64 i3)], []⟩ K = PM.roundF A cx (PM.runD A cx (laws_heldIntS_E A).inl (laws_heldIntS_E A).Γ 3) (laws_heldIntS_E A) (laws_heldIntS_L A n) 0 Go.Proofs.Try.f56 ⟨[(0, .arr (.ints 3 .i64 a1)), (1, .int .i64 k2), (5, .int .i64 i3)], []⟩ K := by kernel_rfl
theorem laws_heldIntS_ok (A : PM.Prims) (a : List Int) (k_ : Int) (k : PM.V → PM.R) : PM.pfun A cx [] (laws_heldIntS_E A) Go.Proofs.Try.f56 [.arr (.ints 3 .i64 a), .int .i64 k_] k = laws_heldIntS_f A a k_ (fun r0 => k (.int .i64 r0)) := by kernel_rfl

theorem laws_heldIntS_fn : PM.FnIs Try.prog 56 Try.f56 := .of Try.func56 (by kernel_rfl) (by kernel_rfl)
theorem laws_heldIntS_g : PM.GOk Try.prog cx 56 ⟨[], laws_heldIntS_w (laws_heldIntS PM.std), none⟩ := by
  refine ⟨laws_heldIntS_fn.enter, fun _ ds k r h => ?_, fun hm => absurd rfl hm, fun _ e => (by cases e)⟩
  change laws_heldIntS_w (laws_heldIntS PM.std) ds k = some r at h
  unfold laws_heldIntS_w at h
  split at h
  · exact PM.pfun_ok (E := laws_heldIntS_E PM.std) (L := fun n => laws_heldIntS_L PM.std n) (N := PM.std.fuel) cx_ok .nil mixed .nil laws_heldIntS_fn (by kernel_rfl) ⟨rfl, fun cur σ K => by
      dsimp only [laws_heldIntS_L]
      split <;> rfl, fun n cur σ K r h => by
      dsimp only [laws_heldIntS_L] at h
      split at h
      · exact (laws_heldIntS_l0_ok PM.std n _ _ _ K).symm.trans h
      · cases h⟩
      ((laws_heldIntS_ok PM.std _ _ k).trans h)
  · cases h

abbrev laws_FnExactFamRegs_T := (Int) → (Int) → (Int) → (Bool) → (List Int) → (List (List Int)) → (List (List Int)) → (List Int) → (List (List Int)) → (List (List PM.C)) → ((Bool) → PM.R) → PM.R
noncomputable def laws_FnExactFamRegs_w (c : laws_FnExactFamRegs_T) (ds : List PM.V) (k : PM.V → PM.R) : PM.R :=
  match ds with
  | [.agg [.int .i64 ___Rv, .int .i64 ___Clock, .int .i64 ___Owner, .bool ___Lost, .arr (.ints 3 .i64 ___Regs), .arr (.vecs 297 2 ___Start), .arr (.vecs 299 3 ___Buf), .arr (.ints 3 .i64 ___Order), .arr (.vecs 297 2 ___Reads), .arr (.rows 295 ___Kids)]] => c ___Rv ___Clock ___Owner ___Lost ___Regs ___Start ___Buf ___Order ___Reads ___Kids (fun r0 => k (.bool r0))
  | _ => none
noncomputable def laws_FnExactFamRegs_f (A : PM.Prims) (c_57 : laws_szFamily_T) (c_59 : laws_toFamily_T) (c_40 : laws_eqIntS_T) (c_61 : laws_eqFamily_T) (c_67 : laws_markFamily_T) (c_77 : spec_FamRegs_T) (c_78 : impl_FamRegs_T) (c_54 : laws_markIntS_T) (c_56 : laws_heldIntS_T) (___Rv : Int) (___Clock : Int) (___Owner : Int) (___Lost : Bool) (___Regs : List Int) (___Start : List (List Int)) (___Buf : List (List Int)) (___Order : List Int) (___Reads : List (List Int)) (___Kids : List (List PM.C)) (k : (Bool) → PM.R) : PM.R :=
  c_57 (A.rint [[(.i ___Rv), (.i ___Clock), (.i ___Owner), (.b ___Lost), (.s (A.ofi ___Regs)), (.s (A.ofv ___Start)), (.s (A.ofv ___Buf)), (.s (A.ofi ___Order)), (.s (A.ofv ___Reads)), (.s ___Kids)]] 0 0) (A.rint [[(.i ___Rv), (.i ___Clock), (.i ___Owner), (.b ___Lost), (.s (A.ofi ___Regs)), (.s (A.ofv ___Start)), (.s (A.ofv ___Buf)), (.s (A.ofi ___Order)), (.s (A.ofv ___Reads)), (.s ___Kids)]] 0 1) (A.rint [[(.i ___Rv), (.i ___Clock), (.i ___Owner), (.b ___Lost), (.s (A.ofi ___Regs)), (.s (A.ofv ___Start)), (.s (A.ofv ___Buf)), (.s (A.ofi ___Order)), (.s (A.ofv ___Reads)), (.s ___Kids)]] 0 2) (A.rbool [[(.i ___Rv), (.i ___Clock), (.i ___Owner), (.b ___Lost), (.s (A.ofi ___Regs)), (.s (A.ofv ___Start)), (.s (A.ofv ___Buf)), (.s (A.ofi ___Order)), (.s (A.ofv ___Reads)), (.s ___Kids)]] 0 3) (A.rsi [[(.i ___Rv), (.i ___Clock), (.i ___Owner), (.b ___Lost), (.s (A.ofi ___Regs)), (.s (A.ofv ___Start)), (.s (A.ofv ___Buf)), (.s (A.ofi ___Order)), (.s (A.ofv ___Reads)), (.s ___Kids)]] 0 4) (A.rsv 2 [[(.i ___Rv), (.i ___Clock), (.i ___Owner), (.b ___Lost), (.s (A.ofi ___Regs)), (.s (A.ofv ___Start)), (.s (A.ofv ___Buf)), (.s (A.ofi ___Order)), (.s (A.ofv ___Reads)), (.s ___Kids)]] 0 5) (A.rsv 3 [[(.i ___Rv), (.i ___Clock), (.i ___Owner), (.b ___Lost), (.s (A.ofi ___Regs)), (.s (A.ofv ___Start)), (.s (A.ofv ___Buf)), (.s (A.ofi ___Order)), (.s (A.ofv ___Reads)), (.s ___Kids)]] 0 6) (A.rsi [[(.i ___Rv), (.i ___Clock), (.i ___Owner), (.b ___Lost), (.s (A.ofi ___Regs)), (.s (A.ofv ___Start)), (.s (A.ofv ___Buf)), (.s (A.ofi ___Order)), (.s (A.ofv ___Reads)), (.s ___Kids)]] 0 7) (A.rsv 2 [[(.i ___Rv), (.i ___Clock), (.i ___Owner), (.b ___Lost), (.s (A.ofi ___Regs)), (.s (A.ofv ___Start)), (.s (A.ofv ___Buf)), (.s (A.ofi ___Order)), (.s (A.ofv ___Reads)), (.s ___Kids)]] 0 8) (A.rsr [[(.i ___Rv), (.i ___Clock), (.i ___Owner), (.b ___Lost), (.s (A.ofi ___Regs)), (.s (A.ofv ___Start)), (.s (A.ofv ___Buf)), (.s (A.ofi ___Order)), (.s (A.ofv ___Reads)), (.s ___Kids)]] 0 9) 1048576 (fun r1 =>
    bif (A.lt r1 0) then
      k true
    else
      c_59 (A.rint [[(.i ___Rv), (.i ___Clock), (.i ___Owner), (.b ___Lost), (.s (A.ofi ___Regs)), (.s (A.ofv ___Start)), (.s (A.ofv ___Buf)), (.s (A.ofi ___Order)), (.s (A.ofv ___Reads)), (.s ___Kids)]] 0 0) (A.rint [[(.i ___Rv), (.i ___Clock), (.i ___Owner), (.b ___Lost), (.s (A.ofi ___Regs)), (.s (A.ofv ___Start)), (.s (A.ofv ___Buf)), (.s (A.ofi ___Order)), (.s (A.ofv ___Reads)), (.s ___Kids)]] 0 1) (A.rint [[(.i ___Rv), (.i ___Clock), (.i ___Owner), (.b ___Lost), (.s (A.ofi ___Regs)), (.s (A.ofv ___Start)), (.s (A.ofv ___Buf)), (.s (A.ofi ___Order)), (.s (A.ofv ___Reads)), (.s ___Kids)]] 0 2) (A.rbool [[(.i ___Rv), (.i ___Clock), (.i ___Owner), (.b ___Lost), (.s (A.ofi ___Regs)), (.s (A.ofv ___Start)), (.s (A.ofv ___Buf)), (.s (A.ofi ___Order)), (.s (A.ofv ___Reads)), (.s ___Kids)]] 0 3) (A.rsi [[(.i ___Rv), (.i ___Clock), (.i ___Owner), (.b ___Lost), (.s (A.ofi ___Regs)), (.s (A.ofv ___Start)), (.s (A.ofv ___Buf)), (.s (A.ofi ___Order)), (.s (A.ofv ___Reads)), (.s ___Kids)]] 0 4) (A.rsv 2 [[(.i ___Rv), (.i ___Clock), (.i ___Owner), (.b ___Lost), (.s (A.ofi ___Regs)), (.s (A.ofv ___Start)), (.s (A.ofv ___Buf)), (.s (A.ofi ___Order)), (.s (A.ofv ___Reads)), (.s ___Kids)]] 0 5) (A.rsv 3 [[(.i ___Rv), (.i ___Clock), (.i ___Owner), (.b ___Lost), (.s (A.ofi ___Regs)), (.s (A.ofv ___Start)), (.s (A.ofv ___Buf)), (.s (A.ofi ___Order)), (.s (A.ofv ___Reads)), (.s ___Kids)]] 0 6) (A.rsi [[(.i ___Rv), (.i ___Clock), (.i ___Owner), (.b ___Lost), (.s (A.ofi ___Regs)), (.s (A.ofv ___Start)), (.s (A.ofv ___Buf)), (.s (A.ofi ___Order)), (.s (A.ofv ___Reads)), (.s ___Kids)]] 0 7) (A.rsv 2 [[(.i ___Rv), (.i ___Clock), (.i ___Owner), (.b ___Lost), (.s (A.ofi ___Regs)), (.s (A.ofv ___Start)), (.s (A.ofv ___Buf)), (.s (A.ofi ___Order)), (.s (A.ofv ___Reads)), (.s ___Kids)]] 0 8) (A.rsr [[(.i ___Rv), (.i ___Clock), (.i ___Owner), (.b ___Lost), (.s (A.ofi ___Regs)), (.s (A.ofv ___Start)), (.s (A.ofv ___Buf)), (.s (A.ofi ___Order)), (.s (A.ofv ___Reads)), (.s ___Kids)]] 0 9) (fun r2 r3 r4 r5 r6 r7 r8 r9 r10 r11 =>
        c_77 r2 r3 r4 r5 r6 r7 r8 r9 r10 r11 (fun r12 =>
          c_59 (A.rint [[(.i ___Rv), (.i ___Clock), (.i ___Owner), (.b ___Lost), (.s (A.ofi ___Regs)), (.s (A.ofv ___Start)), (.s (A.ofv ___Buf)), (.s (A.ofi ___Order)), (.s (A.ofv ___Reads)), (.s ___Kids)]] 0 0) (A.rint [[(.i ___Rv), (.i ___Clock), (.i ___Owner), (.b ___Lost), (.s (A.ofi ___Regs)), (.s (A.ofv ___Start)), (.s (A.ofv ___Buf)), (.s (A.ofi ___Order)), (.s (A.ofv ___Reads)), (.s ___Kids)]] 0 1) (A.rint [[(.i ___Rv), (.i ___Clock), (.i ___Owner), (.b ___Lost), (.s (A.ofi ___Regs)), (.s (A.ofv ___Start)), (.s (A.ofv ___Buf)), (.s (A.ofi ___Order)), (.s (A.ofv ___Reads)), (.s ___Kids)]] 0 2) (A.rbool [[(.i ___Rv), (.i ___Clock), (.i ___Owner), (.b ___Lost), (.s (A.ofi ___Regs)), (.s (A.ofv ___Start)), (.s (A.ofv ___Buf)), (.s (A.ofi ___Order)), (.s (A.ofv ___Reads)), (.s ___Kids)]] 0 3) (A.rsi [[(.i ___Rv), (.i ___Clock), (.i ___Owner), (.b ___Lost), (.s (A.ofi ___Regs)), (.s (A.ofv ___Start)), (.s (A.ofv ___Buf)), (.s (A.ofi ___Order)), (.s (A.ofv ___Reads)), (.s ___Kids)]] 0 4) (A.rsv 2 [[(.i ___Rv), (.i ___Clock), (.i ___Owner), (.b ___Lost), (.s (A.ofi ___Regs)), (.s (A.ofv ___Start)), (.s (A.ofv ___Buf)), (.s (A.ofi ___Order)), (.s (A.ofv ___Reads)), (.s ___Kids)]] 0 5) (A.rsv 3 [[(.i ___Rv), (.i ___Clock), (.i ___Owner), (.b ___Lost), (.s (A.ofi ___Regs)), (.s (A.ofv ___Start)), (.s (A.ofv ___Buf)), (.s (A.ofi ___Order)), (.s (A.ofv ___Reads)), (.s ___Kids)]] 0 6) (A.rsi [[(.i ___Rv), (.i ___Clock), (.i ___Owner), (.b ___Lost), (.s (A.ofi ___Regs)), (.s (A.ofv ___Start)), (.s (A.ofv ___Buf)), (.s (A.ofi ___Order)), (.s (A.ofv ___Reads)), (.s ___Kids)]] 0 7) (A.rsv 2 [[(.i ___Rv), (.i ___Clock), (.i ___Owner), (.b ___Lost), (.s (A.ofi ___Regs)), (.s (A.ofv ___Start)), (.s (A.ofv ___Buf)), (.s (A.ofi ___Order)), (.s (A.ofv ___Reads)), (.s ___Kids)]] 0 8) (A.rsr [[(.i ___Rv), (.i ___Clock), (.i ___Owner), (.b ___Lost), (.s (A.ofi ___Regs)), (.s (A.ofv ___Start)), (.s (A.ofv ___Buf)), (.s (A.ofi ___Order)), (.s (A.ofv ___Reads)), (.s ___Kids)]] 0 9) (fun r13 r14 r15 r16 r17 r18 r19 r20 r21 r22 =>
            c_78 r13 r14 r15 r16 r17 r18 r19 r20 r21 r22 (fun r23 =>
              c_40 r23 r12 (fun r24 =>
                bif (A.not r24) then
                  k false
                else
                  c_59 (A.rint [[(.i ___Rv), (.i ___Clock), (.i ___Owner), (.b ___Lost), (.s (A.ofi ___Regs)), (.s (A.ofv ___Start)), (.s (A.ofv ___Buf)), (.s (A.ofi ___Order)), (.s (A.ofv ___Reads)), (.s ___Kids)]] 0 0) (A.rint [[(.i ___Rv), (.i ___Clock), (.i ___Owner), (.b ___Lost), (.s (A.ofi ___Regs)), (.s (A.ofv ___Start)), (.s (A.ofv ___Buf)), (.s (A.ofi ___Order)), (.s (A.ofv ___Reads)), (.s ___Kids)]] 0 1) (A.rint [[(.i ___Rv), (.i ___Clock), (.i ___Owner), (.b ___Lost), (.s (A.ofi ___Regs)), (.s (A.ofv ___Start)), (.s (A.ofv ___Buf)), (.s (A.ofi ___Order)), (.s (A.ofv ___Reads)), (.s ___Kids)]] 0 2) (A.rbool [[(.i ___Rv), (.i ___Clock), (.i ___Owner), (.b ___Lost), (.s (A.ofi ___Regs)), (.s (A.ofv ___Start)), (.s (A.ofv ___Buf)), (.s (A.ofi ___Order)), (.s (A.ofv ___Reads)), (.s ___Kids)]] 0 3) (A.rsi [[(.i ___Rv), (.i ___Clock), (.i ___Owner), (.b ___Lost), (.s (A.ofi ___Regs)), (.s (A.ofv ___Start)), (.s (A.ofv ___Buf)), (.s (A.ofi ___Order)), (.s (A.ofv ___Reads)), (.s ___Kids)]] 0 4) (A.rsv 2 [[(.i ___Rv), (.i ___Clock), (.i ___Owner), (.b ___Lost), (.s (A.ofi ___Regs)), (.s (A.ofv ___Start)), (.s (A.ofv ___Buf)), (.s (A.ofi ___Order)), (.s (A.ofv ___Reads)), (.s ___Kids)]] 0 5) (A.rsv 3 [[(.i ___Rv), (.i ___Clock), (.i ___Owner), (.b ___Lost), (.s (A.ofi ___Regs)), (.s (A.ofv ___Start)), (.s (A.ofv ___Buf)), (.s (A.ofi ___Order)), (.s (A.ofv ___Reads)), (.s ___Kids)]] 0 6) (A.rsi [[(.i ___Rv), (.i ___Clock), (.i ___Owner), (.b ___Lost), (.s (A.ofi ___Regs)), (.s (A.ofv ___Start)), (.s (A.ofv ___Buf)), (.s (A.ofi ___Order)), (.s (A.ofv ___Reads)), (.s ___Kids)]] 0 7) (A.rsv 2 [[(.i ___Rv), (.i ___Clock), (.i ___Owner), (.b ___Lost), (.s (A.ofi ___Regs)), (.s (A.ofv ___Start)), (.s (A.ofv ___Buf)), (.s (A.ofi ___Order)), (.s (A.ofv ___Reads)), (.s ___Kids)]] 0 8) (A.rsr [[(.i ___Rv), (.i ___Clock), (.i ___Owner), (.b ___Lost), (.s (A.ofi ___Regs)), (.s (A.ofv ___Start)), (.s (A.ofv ___Buf)), (.s (A.ofi ___Order)), (.s (A.ofv ___Reads)), (.s ___Kids)]] 0 9) (fun r25 r26 r27 r28 r29 r30 r31 r32 r33 r34 =>
                    c_61 r13 r14 r15 r16 r17 r18 r19 r20 r21 r22 r25 r26 r27 r28 r29 r30 r31 r32 r33 r34 (fun r35 =>
                      bif (A.not r35) then
                        k false
                      else
                        c_67 r13 r14 r15 r16 r17 r18 r19 r20 r21 r22 1 (fun r36 =>
                          bif (A.lt r36 0) then
                            k false
                          else
                            c_40 r23 r12 (fun r37 =>
                              bif (A.not r37) then
                                k false
                              else
                                c_54 r23 1 (fun r38 r39 =>
                                  c_56 r39 1 (fun r40 =>
                                    bif (A.lt r40 0) then
                                      k false
                                    else
                                      bif (A.not (A.eq r40 r38)) then
                                        k false
                                      else
                                        c_59 (A.rint [[(.i ___Rv), (.i ___Clock), (.i ___Owner), (.b ___Lost), (.s (A.ofi ___Regs)), (.s (A.ofv ___Start)), (.s (A.ofv ___Buf)), (.s (A.ofi ___Order)), (.s (A.ofv ___Reads)), (.s ___Kids)]] 0 0) (A.rint [[(.i ___Rv), (.i ___Clock), (.i ___Owner), (.b ___Lost), (.s (A.ofi ___Regs)), (.s (A.ofv ___Start)), (.s (A.ofv ___Buf)), (.s (A.ofi ___Order)), (.s (A.ofv ___Reads)), (.s ___Kids)]] 0 1) (A.rint [[(.i ___Rv), (.i ___Clock), (.i ___Owner), (.b ___Lost), (.s (A.ofi ___Regs)), (.s (A.ofv ___Start)), (.s (A.ofv ___Buf)), (.s (A.ofi ___Order)), (.s (A.ofv ___Reads)), (.s ___Kids)]] 0 2) (A.rbool [[(.i ___Rv), (.i ___Clock), (.i ___Owner), (.b ___Lost), (.s (A.ofi ___Regs)), (.s (A.ofv ___Start)), (.s (A.ofv ___Buf)), (.s (A.ofi ___Order)), (.s (A.ofv ___Reads)), (.s ___Kids)]] 0 3) (A.rsi [[(.i ___Rv), (.i ___Clock), (.i ___Owner), (.b ___Lost), (.s (A.ofi ___Regs)), (.s (A.ofv ___Start)), (.s (A.ofv ___Buf)), (.s (A.ofi ___Order)), (.s (A.ofv ___Reads)), (.s ___Kids)]] 0 4) (A.rsv 2 [[(.i ___Rv), (.i ___Clock), (.i ___Owner), (.b ___Lost), (.s (A.ofi ___Regs)), (.s (A.ofv ___Start)), (.s (A.ofv ___Buf)), (.s (A.ofi ___Order)), (.s (A.ofv ___Reads)), (.s ___Kids)]] 0 5) (A.rsv 3 [[(.i ___Rv), (.i ___Clock), (.i ___Owner), (.b ___Lost), (.s (A.ofi ___Regs)), (.s (A.ofv ___Start)), (.s (A.ofv ___Buf)), (.s (A.ofi ___Order)), (.s (A.ofv ___Reads)), (.s ___Kids)]] 0 6) (A.rsi [[(.i ___Rv), (.i ___Clock), (.i ___Owner), (.b ___Lost), (.s (A.ofi ___Regs)), (.s (A.ofv ___Start)), (.s (A.ofv ___Buf)), (.s (A.ofi ___Order)), (.s (A.ofv ___Reads)), (.s ___Kids)]] 0 7) (A.rsv 2 [[(.i ___Rv), (.i ___Clock), (.i ___Owner), (.b ___Lost), (.s (A.ofi ___Regs)), (.s (A.ofv ___Start)), (.s (A.ofv ___Buf)), (.s (A.ofi ___Order)), (.s (A.ofv ___Reads)), (.s ___Kids)]] 0 8) (A.rsr [[(.i ___Rv), (.i ___Clock), (.i ___Owner), (.b ___Lost), (.s (A.ofi ___Regs)), (.s (A.ofv ___Start)), (.s (A.ofv ___Buf)), (.s (A.ofi ___Order)), (.s (A.ofv ___Reads)), (.s ___Kids)]] 0 9) (fun r41 r42 r43 r44 r45 r46 r47 r48 r49 r50 =>
                                          c_78 r41 r42 r43 r44 r45 r46 r47 r48 r49 r50 (fun r51 =>
                                            c_40 r51 r12 (fun r52 =>
                                              bif (A.not r52) then
                                                k false
                                              else
                                                c_56 r39 1 (fun r53 =>
                                                  bif (A.lt r53 0) then
                                                    k false
                                                  else
                                                    bif (A.not (A.eq r53 r38)) then
                                                      k false
                                                    else
                                                      k true))))))))))))))))
noncomputable def laws_FnExactFamRegs (A : PM.Prims) : laws_FnExactFamRegs_T := laws_FnExactFamRegs_f A (laws_szFamily A) (laws_toFamily A) (laws_eqIntS A) (laws_eqFamily A) (laws_markFamily A) (spec_FamRegs A) (impl_FamRegs A) (laws_markIntS A) (laws_heldIntS A)
noncomputable def laws_FnExactFamRegs_L (A : PM.Prims) (c_57 : laws_szFamily_T) (c_59 : laws_toFamily_T) (c_40 : laws_eqIntS_T) (c_61 : laws_eqFamily_T) (c_67 : laws_markFamily_T) (c_77 : spec_FamRegs_T) (c_78 : impl_FamRegs_T) (c_54 : laws_markIntS_T) (c_56 : laws_heldIntS_T) (n : Nat) : PM.Lam := fun cur σ K =>
  match cur, σ, K with
  | _, _, _ => none
noncomputable def laws_FnExactFamRegs_E (A : PM.Prims) (c_57 : laws_szFamily_T) (c_59 : laws_toFamily_T) (c_40 : laws_eqIntS_T) (c_61 : laws_eqFamily_T) (c_67 : laws_markFamily_T) (c_77 : spec_FamRegs_T) (c_78 : impl_FamRegs_T) (c_54 : laws_markIntS_T) (c_56 : laws_heldIntS_T) : PM.Env := ⟨[(57, ⟨[], laws_szFamily_w c_57, none⟩), (59, ⟨[], laws_toFamily_w c_59, none⟩), (40, ⟨[], laws_eqIntS_w c_40, none⟩), (61, ⟨[], laws_eqFamily_w c_61, none⟩), (77, ⟨[], spec_FamRegs_w c_77, none⟩), (78, ⟨[], impl_FamRegs_w c_78, none⟩), (54, ⟨[true, false], laws_markIntS_w c_54, none⟩), (56, ⟨[], laws_heldIntS_w c_56, none⟩)], [], [], [(0, [1]), (1, [1, 3]), (2, [1, 3]), (3, [1, 15]), (4, [2]), (5, [1, 4]), (6, [1, 4, 5]), (7, [1, 4, 5, 6]), (8, [1, 4, 5, 6, 26]), (9, [2]), (10, [1, 4, 5, 6, 31]), (11, [2]), (12, [1, 4, 5, 6, 7]), (13, [1, 4, 6, 7]), (14, [1, 4, 6, 42]), (15, [2]), (16, [1, 4, 6, 8]), (17, [1, 4, 6, 8]), (18, [1, 4, 6, 8, 9]), (19, [1, 4, 6, 8, 9]), (20, [1, 4, 6, 8, 9, 50]), (21, [2]), (22, [1, 4, 6, 8, 53]), (23, [2]), (24, [4, 6, 8, 10]), (25, [6, 8, 60]), (26, [2]), (27, [6, 8, 9]), (28, [8, 9]), (29, [8, 9, 65]), (30, [2]), (31, [68]), (32, [2]), (33, [2])], laws_FnExactFamRegs_L A c_57 c_59 c_40 c_61 c_67 c_77 c_78 c_54 c_56 A.fuel⟩
theorem laws_FnExactFamRegs_ok (A : PM.Prims) (c_57 : laws_szFamily_T) (c_59 : laws_toFamily_T) (c_40 : laws_eqIntS_T) (c_61 : laws_eqFamily_T) (c_67 : laws_markFamily_T) (c_77 : spec_FamRegs_T) (c_78 : impl_FamRegs_T) (c_54 : laws_markIntS_T) (c_56 : laws_heldIntS_T) (___Rv : Int) (___Clock : Int) (___Owner : Int) (___Lost : Bool) (___Regs : List Int) (___Start : List (List Int)) (___Buf : List (List Int)) (___Order : List Int) (___Reads : List (List Int)) (___Kids : List (List PM.C)) (k : PM.V → PM.R) : PM.lfunB A cx [(67, laws_markFamily_w c_67)] (laws_FnExactFamRegs_E A c_57 c_59 c_40 c_61 c_67 c_77 c_78 c_54 c_56) Go.Proofs.Try.f15 [.agg [.int .i64 ___Rv, .int .i64 ___Clock, .int .i64 ___Owner, .bool ___Lost, .arr (.ints 3 .i64 ___Regs), .arr (.vecs 297 2 ___Start), .arr (.vecs 299 3 ___Buf), .arr (.ints 3 .i64 ___Order), .arr (.vecs 297 2 ___Reads), .arr (.rows 295 ___Kids)]] k = laws_FnExactFamRegs_f A c_57 c_59 c_40 c_61 c_67 c_77 c_78 c_54 c_56 ___Rv ___Clock ___Owner ___Lost ___Regs ___Start ___Buf ___Order ___Reads ___Kids (fun r0 => k (.bool r0)) := by kernel_rfl

theorem laws_FnExactFamRegs_fn : PM.FnIs Try.prog 15 Try.f15 := .of Try.func15 (by kernel_rfl) (by kernel_rfl)
theorem laws_FnExactFamRegs_g : PM.GOk Try.prog cx 15 ⟨[], laws_FnExactFamRegs_w (laws_FnExactFamRegs PM.std), none⟩ := by
  refine ⟨laws_FnExactFamRegs_fn.enter, fun _ ds k r h => ?_, fun hm => absurd rfl hm, fun _ e => (by cases e)⟩
  change laws_FnExactFamRegs_w (laws_FnExactFamRegs PM.std) ds k = some r at h
  unfold laws_FnExactFamRegs_w at h
  split at h
  · exact PM.lfunB_ok (E := laws_FnExactFamRegs_E PM.std (laws_szFamily PM.std) (laws_toFamily PM.std) (laws_eqIntS PM.std) (laws_eqFamily PM.std) (laws_markFamily PM.std) (spec_FamRegs PM.std) (impl_FamRegs PM.std) (laws_markIntS PM.std) (laws_heldIntS PM.std)) (M := [(67, laws_markFamily_w (laws_markFamily PM.std))]) (.cons laws_markFamily_mk .nil) cx_ok (.cons laws_szFamily_g (.cons laws_toFamily_g (.cons laws_eqIntS_g (.cons laws_eqFamily_g (.cons spec_FamRegs_g (.cons impl_FamRegs_g (.cons laws_markIntS_g (.cons laws_heldIntS_g .nil)))))))) mixed .nil laws_FnExactFamRegs_fn (by kernel_rfl)
      ((laws_FnExactFamRegs_ok PM.std (laws_szFamily PM.std) (laws_toFamily PM.std) (laws_eqIntS PM.std) (laws_eqFamily PM.std) (laws_markFamily PM.std) (spec_FamRegs PM.std) (impl_FamRegs PM.std) (laws_markIntS PM.std) (laws_heldIntS PM.std) _ _ _ _ _ _ _ _ _ _ k).trans h)
  · cases h

abbrev spec_l3Vals_T := (List Int) → ((Bool) → PM.R) → PM.R
noncomputable def spec_l3Vals_w (c : spec_l3Vals_T) (ds : List PM.V) (k : PM.V → PM.R) : PM.R :=
  match ds with
  | [.arr (.ints 3 .i64 l)] => c l (fun r0 => k (.bool r0))
  | _ => none
noncomputable def spec_l3Vals_l0 (A : PM.Prims) (c_197 : spec_l3Val_T) : Nat → (List Int) → (Int) → ((Bool) → PM.R) → (Unit → PM.R) → PM.R
  | 0, _, _, _, _ => none
  | n + 1, l1, i2, kret_0, kx0_0 =>
    bif (A.lt i2 (A.ilen l1)) then
      bif (A.inb i2 (A.ilen l1)) then
        c_197 (A.iget l1 i2) (fun r3 =>
          bif (A.not r3) then
            kret_0 false
          else
            spec_l3Vals_l0 A c_197 n l1 (A.add .i64 i2 1) kret_0 kx0_0)
      else
        none
    else
      kx0_0 ()
noncomputable def spec_l3Vals_f (A : PM.Prims) (c_197 : spec_l3Val_T) (l : List Int) (k : (Bool) → PM.R) : PM.R :=
  bif (A.not (A.eq (A.ilen l) 8)) then
    k false
  else
    spec_l3Vals_l0 A c_197 A.fuel l 0 (fun t245 =>
      k t245) (fun _ =>
      k true)
noncomputable def spec_l3Vals (A : PM.Prims) : spec_l3Vals_T := spec_l3Vals_f A (spec_l3Val A)
noncomputable def spec_l3Vals_L (A : PM.Prims) (c_197 : spec_l3Val_T) (n : Nat) : PM.Lam := fun cur σ K =>
  match cur, σ, K with
  | 0, ⟨[(0, .arr (.ints 3 .i64 l1)), (3, .int .i64 i2)], []⟩, K => spec_l3Vals_l0 A c_197 n l1 i2 (fun t24 => K .ret ⟨[(2, .bool t24)], []⟩) (fun _ => K (.exit 0) ⟨[], []⟩)
  | _, _, _ => none
noncomputable def spec_l3Vals_E (A : PM.Prims) (c_197 : spec_l3Val_T) : PM.Env := ⟨[(197, ⟨[], spec_l3Val_w c_197, none⟩)], [], [(0, [0, 3], [2])], [(0, [0]), (1, [0, 6]), (2, [2]), (3, [0, 3]), (4, [0, 3, 10]), (5, [0, 3]), (6, [0, 3, 18]), (7, [2]), (8, [2])], spec_l3Vals_L A c_197 A.fuel⟩
theorem spec_l3Vals_l0_ok (A : PM.Prims) (c_197 : spec_l3Val_T) (n : Nat) (l1 : List Int) (i2 : Int) (K : Go.Exit → PM.S → PM.R) : spec_l3Vals_L A c_197 (n + 1) 0 ⟨[(0, .arr (.ints 3 .i64 l1)), (3, .int .i64 i2)], []⟩ K = PM.roundF A cx (PM.runD A cx (spec_l3Vals_E A c_197).inl (spec_l3Vals_E A c_197).Γ 3) (spec_l3Vals_E A c_197) (spec_l3Vals_L A c_197 n) 0 Go.Proofs.Try.f107 ⟨[(0, .arr (.ints 3 .i64 l1)), (3, .int .i64 i2)], []⟩ K := by kernel_rfl
theorem spec_l3Vals_ok (A : PM.Prims) (c_197 : spec_l3Val_T) (l : List Int) (k : PM.V → PM.R) : PM.pfun A cx [] (spec_l3Vals_E A c_197) Go.Proofs.Try.f107 [.arr (.ints 3 .i64 l)] k = spec_l3Vals_f A c_197 l (fun r0 => k (.bool r0)) := by kernel_rfl

theorem spec_l3Vals_fn : PM.FnIs Try.prog 107 Try.f107 := .of Try.func107 (by kernel_rfl) (by kernel_rfl)
theorem spec_l3Vals_g : PM.GOk Try.prog cx 107 ⟨[], spec_l3Vals_w (spec_l3Vals PM.std), none⟩ := by
  refine ⟨spec_l3Vals_fn.enter, fun _ ds k r h => ?_, fun hm => absurd rfl hm, fun _ e => (by cases e)⟩
  change spec_l3Vals_w (spec_l3Vals PM.std) ds k = some r at h
  unfold spec_l3Vals_w at h
  split at h
  · exact PM.pfun_ok (E := spec_l3Vals_E PM.std (spec_l3Val PM.std)) (L := fun n => spec_l3Vals_L PM.std (spec_l3Val PM.std) n) (N := PM.std.fuel) cx_ok (.cons spec_l3Val_g .nil) mixed .nil spec_l3Vals_fn (by kernel_rfl) ⟨rfl, fun cur σ K => by
      dsimp only [spec_l3Vals_L]
      split <;> rfl, fun n cur σ K r h => by
      dsimp only [spec_l3Vals_L] at h
      split at h
      · exact (spec_l3Vals_l0_ok PM.std (spec_l3Val PM.std) n _ _ K).symm.trans h
      · cases h⟩
      ((spec_l3Vals_ok PM.std (spec_l3Val PM.std) _ k).trans h)
  · cases h

abbrev spec_l3Cell_T := (Int) → ((Bool) → PM.R) → PM.R
noncomputable def spec_l3Cell_w (c : spec_l3Cell_T) (ds : List PM.V) (k : PM.V → PM.R) : PM.R :=
  match ds with
  | [.int .i64 i] => c i (fun r0 => k (.bool r0))
  | _ => none
noncomputable def spec_l3Cell_f (A : PM.Prims) (c_103 : spec_l1In_T) (i : Int) (k : (Bool) → PM.R) : PM.R :=
  c_103 i 0 7 (fun r1 =>
    k r1)
noncomputable def spec_l3Cell (A : PM.Prims) : spec_l3Cell_T := spec_l3Cell_f A (spec_l1In A)
noncomputable def spec_l3Cell_L (A : PM.Prims) (c_103 : spec_l1In_T) (n : Nat) : PM.Lam := fun cur σ K =>
  match cur, σ, K with
  | _, _, _ => none
noncomputable def spec_l3Cell_E (A : PM.Prims) (c_103 : spec_l1In_T) : PM.Env := ⟨[(103, ⟨[], spec_l1In_w c_103, none⟩)], [], [], [(0, [0]), (1, [2])], spec_l3Cell_L A c_103 A.fuel⟩
theorem spec_l3Cell_ok (A : PM.Prims) (c_103 : spec_l1In_T) (i : Int) (k : PM.V → PM.R) : PM.pfun A cx [] (spec_l3Cell_E A c_103) Go.Proofs.Try.f140 [.int .i64 i] k = spec_l3Cell_f A c_103 i (fun r0 => k (.bool r0)) := by kernel_rfl

theorem spec_l3Cell_fn : PM.FnIs Try.prog 140 Try.f140 := .of Try.func140 (by kernel_rfl) (by kernel_rfl)
theorem spec_l3Cell_g : PM.GOk Try.prog cx 140 ⟨[], spec_l3Cell_w (spec_l3Cell PM.std), none⟩ := by
  refine ⟨spec_l3Cell_fn.enter, fun _ ds k r h => ?_, fun hm => absurd rfl hm, fun _ e => (by cases e)⟩
  change spec_l3Cell_w (spec_l3Cell PM.std) ds k = some r at h
  unfold spec_l3Cell_w at h
  split at h
  · exact PM.pfun_ok (E := spec_l3Cell_E PM.std (spec_l1In PM.std)) (L := fun n => spec_l3Cell_L PM.std (spec_l1In PM.std) n) (N := PM.std.fuel) cx_ok (.cons spec_l1In_g .nil) mixed .nil spec_l3Cell_fn (by kernel_rfl) ⟨rfl, fun _ _ _ => rfl, fun n cur σ K r h => by cases h⟩
      ((spec_l3Cell_ok PM.std (spec_l1In PM.std) _ k).trans h)
  · cases h

abbrev spec_RowsOk_T := (List (List Int)) → ((Bool) → PM.R) → PM.R
noncomputable def spec_RowsOk_w (c : spec_RowsOk_T) (ds : List PM.V) (k : PM.V → PM.R) : PM.R :=
  match ds with
  | [.arr (.vecs 161 2 l)] => c l (fun r0 => k (.bool r0))
  | _ => none
noncomputable def spec_RowsOk_l0 (A : PM.Prims) (c_197 : spec_l3Val_T) (c_140 : spec_l3Cell_T) : Nat → (List (List Int)) → (Int) → ((Bool) → PM.R) → (Unit → PM.R) → PM.R
  | 0, _, _, _, _ => none
  | n + 1, l1, i2, kret_0, kx0_0 =>
    bif (A.lt i2 (A.vlen l1)) then
      bif (A.inb i2 (A.vlen l1)) then
        c_140 (A.vget l1 i2 0) (fun r3 =>
          bif (A.not r3) then
            kret_0 false
          else
            bif (A.inb i2 (A.vlen l1)) then
              c_197 (A.vget l1 i2 1) (fun r5 =>
                bif (A.not r5) then
                  kret_0 false
                else
                  spec_RowsOk_l0 A c_197 c_140 n l1 (A.add .i64 i2 1) kret_0 kx0_0)
            else
              none)
      else
        none
    else
      kx0_0 ()
noncomputable def spec_RowsOk_f (A : PM.Prims) (c_197 : spec_l3Val_T) (c_140 : spec_l3Cell_T) (l : List (List Int)) (k : (Bool) → PM.R) : PM.R :=
  bif (A.lt 300 (A.vlen l)) then
    k false
  else
    spec_RowsOk_l0 A c_197 c_140 A.fuel l 0 (fun t246 =>
      k t246) (fun _ =>
      k true)
noncomputable def spec_RowsOk (A : PM.Prims) : spec_RowsOk_T := spec_RowsOk_f A (spec_l3Val A) (spec_l3Cell A)
noncomputable def spec_RowsOk_L (A : PM.Prims) (c_197 : spec_l3Val_T) (c_140 : spec_l3Cell_T) (n : Nat) : PM.Lam := fun cur σ K =>
  match cur, σ, K with
  | 0, ⟨[(0, .arr (.vecs 161 2 l1)), (3, .int .i64 i2)], []⟩, K => spec_RowsOk_l0 A c_197 c_140 n l1 i2 (fun t24 => K .ret ⟨[(2, .bool t24)], []⟩) (fun _ => K (.exit 0) ⟨[], []⟩)
  | _, _, _ => none
noncomputable def spec_RowsOk_E (A : PM.Prims) (c_197 : spec_l3Val_T) (c_140 : spec_l3Cell_T) : PM.Env := ⟨[(197, ⟨[], spec_l3Val_w c_197, none⟩), (140, ⟨[], spec_l3Cell_w c_140, none⟩)], [], [(0, [0, 3], [2])], [(0, [0]), (1, [0, 6]), (2, [2]), (3, [0, 3]), (4, [0, 3, 10]), (5, [0, 3]), (6, [0, 3, 28]), (7, [2]), (8, [2])], spec_RowsOk_L A c_197 c_140 A.fuel⟩
theorem spec_RowsOk_l0_ok (A : PM.Prims) (c_197 : spec_l3Val_T) (c_140 : spec_l3Cell_T) (n : Nat) (l1 : List (List Int)) (i2 : Int) (K : Go.Exit → PM.S → PM.R) : spec_RowsOk_L A c_197 c_140 (n + 1) 0 ⟨[(0, .arr (.vecs 161 2 l1)), (3, .int .i64 i2)], []⟩ K = PM.roundF A cx (PM.runD A cx (spec_RowsOk_E A c_197 c_140).inl (spec_RowsOk_E A c_197 c_140).Γ 3) (spec_RowsOk_E A c_197 c_140) (spec_RowsOk_L A c_197 c_140 n) 0 Go.Proofs.Try.f104 ⟨[(0, .arr (.vecs 161 2 l1)), (3, .int .i64 i2)], []⟩ K := by kernel_rfl
theorem spec_RowsOk_ok (A : PM.Prims) (c_197 : spec_l3Val_T) (c_140 : spec_l3Cell_T) (l : List (List Int)) (k : PM.V → PM.R) : PM.pfun A cx [] (spec_RowsOk_E A c_197 c_140) Go.Proofs.Try.f104 [.arr (.vecs 161 2 l)] k = spec_RowsOk_f A c_197 c_140 l (fun r0 => k (.bool r0)) := by kernel_rfl

theorem spec_RowsOk_fn : PM.FnIs Try.prog 104 Try.f104 := .of Try.func104 (by kernel_rfl) (by kernel_rfl)
theorem spec_RowsOk_g : PM.GOk Try.prog cx 104 ⟨[], spec_RowsOk_w (spec_RowsOk PM.std), none⟩ := by
  refine ⟨spec_RowsOk_fn.enter, fun _ ds k r h => ?_, fun hm => absurd rfl hm, fun _ e => (by cases e)⟩
  change spec_RowsOk_w (spec_RowsOk PM.std) ds k = some r at h
  unfold spec_RowsOk_w at h
  split at h
  · exact PM.pfun_ok (E := spec_RowsOk_E PM.std (spec_l3Val PM.std) (spec_l3Cell PM.std)) (L := fun n => spec_RowsOk_L PM.std (spec_l3Val PM.std) (spec_l3Cell PM.std) n) (N := PM.std.fuel) cx_ok (.cons spec_l3Val_g (.cons spec_l3Cell_g .nil)) mixed .nil spec_RowsOk_fn (by kernel_rfl) ⟨rfl, fun cur σ K => by
      dsimp only [spec_RowsOk_L]
      split <;> rfl, fun n cur σ K r h => by
      dsimp only [spec_RowsOk_L] at h
      split at h
      · exact (spec_RowsOk_l0_ok PM.std (spec_l3Val PM.std) (spec_l3Cell PM.std) n _ _ K).symm.trans h
      · cases h⟩
      ((spec_RowsOk_ok PM.std (spec_l3Val PM.std) (spec_l3Cell PM.std) _ k).trans h)
  · cases h

abbrev spec_Overlay_T := (List Int) → (List (List Int)) → ((List Int) → PM.R) → PM.R
noncomputable def spec_Overlay_w (c : spec_Overlay_T) (ds : List PM.V) (k : PM.V → PM.R) : PM.R :=
  match ds with
  | [.arr (.ints 3 .i64 cells), .arr (.vecs 161 2 l)] => c cells l (fun r0 => k (.arr (.ints 3 .i64 r0)))
  | _ => none
noncomputable def spec_Overlay_l0 (A : PM.Prims) (c_107 : spec_l3Vals_T) (c_104 : spec_RowsOk_T) : Nat → (List (List Int)) → (Int) → (List Int) → ((List Int) → PM.R) → PM.R
  | 0, _, _, _, _ => none
  | n + 1, l3, i4, o05, kx0_0 =>
    bif (A.lt i4 (A.vlen l3)) then
      bif (A.inb i4 (A.vlen l3)) then
        bif (A.inb i4 (A.vlen l3)) then
          bif (A.inb (A.vget l3 i4 0) (A.ilen o05)) then
            spec_Overlay_l0 A c_107 c_104 n l3 (A.add .i64 i4 1) (A.iset o05 (A.vget l3 i4 0) (A.vget l3 i4 1)) kx0_0
          else
            none
        else
          none
      else
        none
    else
      kx0_0 o05
noncomputable def spec_Overlay_f (A : PM.Prims) (c_107 : spec_l3Vals_T) (c_104 : spec_RowsOk_T) (cells : List Int) (l : List (List Int)) (k : (List Int) → PM.R) : PM.R :=
  c_107 cells (fun r1 =>
    bif (A.not r1) then
      k []
    else
      c_104 l (fun r2 =>
        bif (A.not r2) then
          k []
        else
          bif (A.room (A.ilen []) (A.ilen cells)) then
            spec_Overlay_l0 A c_107 c_104 A.fuel l 0 (A.iapp [] cells) (fun o067 =>
              k o067)
          else
            none))
noncomputable def spec_Overlay (A : PM.Prims) : spec_Overlay_T := spec_Overlay_f A (spec_l3Vals A) (spec_RowsOk A)
noncomputable def spec_Overlay_L (A : PM.Prims) (c_107 : spec_l3Vals_T) (c_104 : spec_RowsOk_T) (n : Nat) : PM.Lam := fun cur σ K =>
  match cur, σ, K with
  | 0, ⟨[(1, .arr (.vecs 161 2 l3)), (5, .sref 0), (6, .int .i64 i4)], [(0, .arr true (.ints 3 .i64 o05))]⟩, K => spec_Overlay_l0 A c_107 c_104 n l3 i4 o05 (fun o06 => K (.exit 0) ⟨[(5, .sref 0)], [(0, .arr true (.ints 3 .i64 o06))]⟩)
  | _, _, _ => none
noncomputable def spec_Overlay_E (A : PM.Prims) (c_107 : spec_l3Vals_T) (c_104 : spec_RowsOk_T) : PM.Env := ⟨[(107, ⟨[], spec_l3Vals_w c_107, none⟩), (104, ⟨[], spec_RowsOk_w c_104, none⟩)], [], [(0, [1, 5, 6], [4, 5])], [(0, [0, 1]), (1, [0, 1, 14]), (2, [4]), (3, [1, 5]), (4, [1, 5, 6]), (5, [1, 5, 6, 22]), (6, [1, 5, 6]), (7, [1, 5, 6]), (8, [4])], spec_Overlay_L A c_107 c_104 A.fuel⟩
theorem spec_Overlay_l0_ok (A : PM.Prims) (c_107 : spec_l3Vals_T) (c_104 : spec_RowsOk_T) (n : Nat) (l3 : List (List Int)) (i4 : Int) (o05 : List Int) (K : Go.Exit → PM.S → PM.R) : spec_Overlay_L A c_107 c_104 (n + 1) 0 ⟨[(1, .arr (.vecs 161 2 l3)), (5, .sref 0), (6, .int .i64 i4)], [(0, .arr true (.ints 3 .i64 o05))]⟩ K = PM.roundF A cx (PM.runD A cx (spec_Overlay_E A c_107 c_104).inl (spec_Overlay_E A c_107 c_104).Γ 3) (spec_Overlay_E A c_107 c_104) (spec_Overlay_L A c_107 c_104 n) 0 Go.Proofs.Try.f29 ⟨[(1, .arr (.vecs 161 2 l3)), (5, .sref 0), (6, .int .i64 i4)], [(0, .arr true (.ints 3 .i64 o05))]⟩ K := by kernel_rfl
theorem spec_Overlay_ok (A : PM.Prims) (c_107 : spec_l3Vals_T) (c_104 : spec_RowsOk_T) (cells : List Int) (l : List (List Int)) (k : PM.V → PM.R) : PM.pfun A cx [] (spec_Overlay_E A c_107 c_104) Go.Proofs.Try.f29 [.arr (.ints 3 .i64 cells), .arr (.vecs 161 2 l)] k = spec_Overlay_f A c_107 c_104 cells l (fun r0 => k (.arr (.ints 3 .i64 r0))) := by kernel_rfl

theorem spec_Overlay_fn : PM.FnIs Try.prog 29 Try.f29 := .of Try.func29 (by kernel_rfl) (by kernel_rfl)
theorem spec_Overlay_g : PM.GOk Try.prog cx 29 ⟨[], spec_Overlay_w (spec_Overlay PM.std), none⟩ := by
  refine ⟨spec_Overlay_fn.enter, fun _ ds k r h => ?_, fun hm => absurd rfl hm, fun _ e => (by cases e)⟩
  change spec_Overlay_w (spec_Overlay PM.std) ds k = some r at h
  unfold spec_Overlay_w at h
  split at h
  · exact PM.pfun_ok (E := spec_Overlay_E PM.std (spec_l3Vals PM.std) (spec_RowsOk PM.std)) (L := fun n => spec_Overlay_L PM.std (spec_l3Vals PM.std) (spec_RowsOk PM.std) n) (N := PM.std.fuel) cx_ok (.cons spec_l3Vals_g (.cons spec_RowsOk_g .nil)) mixed .nil spec_Overlay_fn (by kernel_rfl) ⟨rfl, fun cur σ K => by
      dsimp only [spec_Overlay_L]
      split <;> rfl, fun n cur σ K r h => by
      dsimp only [spec_Overlay_L] at h
      split at h
      · exact (spec_Overlay_l0_ok PM.std (spec_l3Vals PM.std) (spec_RowsOk PM.std) n _ _ _ K).symm.trans h
      · cases h⟩
      ((spec_Overlay_ok PM.std (spec_l3Vals PM.std) (spec_RowsOk PM.std) _ _ k).trans h)
  · cases h

abbrev spec_FamAt_T := (List Int) → (Int) → (Int) → (Int) → (Bool) → (List Int) → (List (List Int)) → (List (List Int)) → (List Int) → (List (List Int)) → (List (List PM.C)) → (Int) → ((List Int) → PM.R) → PM.R
noncomputable def spec_FamAt_w (c : spec_FamAt_T) (ds : List PM.V) (k : PM.V → PM.R) : PM.R :=
  match ds with
  | [.arr (.ints 3 .i64 __), .agg [.int .i64 a_Rv, .int .i64 a_Clock, .int .i64 a_Owner, .bool a_Lost, .arr (.ints 3 .i64 a_Regs), .arr (.vecs 161 2 a_Start), .arr (.vecs 225 3 a_Buf), .arr (.ints 3 .i64 a_Order), .arr (.vecs 161 2 a_Reads), .arr (.rows 214 a_Kids)], .int .i64 r] => c __ a_Rv a_Clock a_Owner a_Lost a_Regs a_Start a_Buf a_Order a_Reads a_Kids r (fun r0 => k (.arr (.ints 3 .i64 r0)))
  | _ => none
noncomputable def spec_FamAt_l0 (A : PM.Prims) (c_107 : spec_l3Vals_T) (c_104 : spec_RowsOk_T) (c_29 : spec_Overlay_T) : Nat → (Int) → (Int) → (Int) → (Int) → (Int) → (Bool) → (List Int) → (List (List Int)) → (List (List Int)) → (List Int) → (List (List Int)) → (List (List C)) → (List Int) → ((List Int) → PM.R) → PM.R
  | 0, _, _, _, _, _, _, _, _, _, _, _, _, _, _ => none
  | n + 1, n4, i5, o06, o07, o08, o09, o010, o011, o012, o013, o014, o015, o116, kx0_0 =>
    bif (A.lt i5 (A.ilen o013)) then
      bif (A.lt i5 n4) then
        bif (A.inb i5 (A.ilen o013)) then
          bif (A.le 0 (A.iget o013 i5)) then
            bif (A.lt (A.iget o013 i5) (A.rlen o015)) then
              bif (A.inb (A.iget o013 i5) (A.rlen o015)) then
                c_104 (A.rsv 2 o015 (A.iget o013 i5) 8) (fun r17 =>
                  bif r17 then
                    bif (A.inb (A.iget o013 i5) (A.rlen o015)) then
                      c_29 o116 (A.rsv 2 o015 (A.iget o013 i5) 8) (fun r18 =>
                        spec_FamAt_l0 A c_107 c_104 c_29 n n4 (A.add .i64 i5 1) o06 o07 o08 o09 o010 o011 o012 o013 o014 o015 r18 kx0_0)
                    else
                      none
                  else
                    spec_FamAt_l0 A c_107 c_104 c_29 n n4 (A.add .i64 i5 1) o06 o07 o08 o09 o010 o011 o012 o013 o014 o015 o116 kx0_0)
              else
                none
            else
              spec_FamAt_l0 A c_107 c_104 c_29 n n4 (A.add .i64 i5 1) o06 o07 o08 o09 o010 o011 o012 o013 o014 o015 o116 kx0_0
          else
            spec_FamAt_l0 A c_107 c_104 c_29 n n4 (A.add .i64 i5 1) o06 o07 o08 o09 o010 o011 o012 o013 o014 o015 o116 kx0_0
        else
          none
      else
        kx0_0 o116
    else
      kx0_0 o116
noncomputable def spec_FamAt_f (A : PM.Prims) (c_107 : spec_l3Vals_T) (c_104 : spec_RowsOk_T) (c_29 : spec_Overlay_T) (__ : List Int) (a_Rv : Int) (a_Clock : Int) (a_Owner : Int) (a_Lost : Bool) (a_Regs : List Int) (a_Start : List (List Int)) (a_Buf : List (List Int)) (a_Order : List Int) (a_Reads : List (List Int)) (a_Kids : List (List PM.C)) (r : Int) (k : (List Int) → PM.R) : PM.R :=
  c_107 __ (fun r1 =>
    bif (A.not r1) then
      k []
    else
      c_104 a_Start (fun r2 =>
        bif (A.not r2) then
          k []
        else
          c_29 __ a_Start (fun r3 =>
            spec_FamAt_l0 A c_107 c_104 c_29 A.fuel r 0 a_Rv a_Clock a_Owner a_Lost a_Regs a_Start a_Buf a_Order a_Reads a_Kids r3 (fun o01920 =>
              k o01920))))
noncomputable def spec_FamAt (A : PM.Prims) : spec_FamAt_T := spec_FamAt_f A (spec_l3Vals A) (spec_RowsOk A) (spec_Overlay A)
noncomputable def spec_FamAt_L (A : PM.Prims) (c_107 : spec_l3Vals_T) (c_104 : spec_RowsOk_T) (c_29 : spec_Overlay_T) (n : Nat) : PM.Lam := fun cur σ K =>
  match cur, σ, K with
  | 0, ⟨[(2, .int .i64 n4), (4, .pbox 0 0), (7, .sref 1), (8, .int .i64 i5)], [(0, .box [.int .i64 o06, .int .i64 o07, .int .i64 o08, .bool o09, .arr (.ints 3 .i64 o010), .arr (.vecs 161 2 o011), .arr (.vecs 225 3 o012), .arr (.ints 3 .i64 o013), .arr (.vecs 161 2 o014), .arr (.rows 214 o015)]), (1, .arr true (.ints 3 .i64 o116))]⟩, K => spec_FamAt_l0 A c_107 c_104 c_29 n n4 i5 o06 o07 o08 o09 o010 o011 o012 o013 o014 o015 o116 (fun o019 => K (.exit 0) ⟨[(7, .sref 0)], [(0, .arr true (.ints 3 .i64 o019))]⟩)
  | _, _, _ => none
noncomputable def spec_FamAt_E (A : PM.Prims) (c_107 : spec_l3Vals_T) (c_104 : spec_RowsOk_T) (c_29 : spec_Overlay_T) : PM.Env := ⟨[(107, ⟨[], spec_l3Vals_w c_107, none⟩), (104, ⟨[], spec_RowsOk_w c_104, none⟩), (29, ⟨[], spec_Overlay_w c_29, none⟩)], [], [(0, [2, 4, 7, 8], [6, 7])], [(0, [0, 2, 4]), (1, [0, 2, 4, 18]), (2, [6]), (3, [2, 4, 7]), (4, [2, 4, 7, 8]), (5, [2, 4, 7, 8, 33]), (6, [2, 4, 7, 8]), (7, [2, 4, 7, 8, 9]), (8, [2, 4, 7, 8, 9, 58]), (9, [2, 4, 7, 8]), (10, [6])], spec_FamAt_L A c_107 c_104 c_29 A.fuel⟩
theorem spec_FamAt_l0_ok (A : PM.Prims) (c_107 : spec_l3Vals_T) (c_104 : spec_RowsOk_T) (c_29 : spec_Overlay_T) (n : Nat) (n4 : Int) (i5 : Int) (o06 : Int) (o07 : Int) (o08 : Int) (o09 : Bool) (o010 : List Int) (o011 : List (List Int)) (o012 : List (List Int)) (o013 : List Int) (o014 : List (List Int)) (o015 : List (List C)) (o116 : List Int) (K : Go.Exit → PM.S → PM.R) : spec_FamAt_L A c_107 c_104 c_29 (n + 1) 0 ⟨[(2, .int .i64 n4), (4, .pbox 0 0), (7, .sref 1), (8, .int .i64 i5)], [(0, .box [.int .i64 o06, .int .i64 o07, .int .i64 o08, .bool o09, .arr (.ints 3 .i64 o010), .arr (.vecs 161 2 o011), .arr (.vecs 225 3 o012), .arr (.ints 3 .i64 o013), .arr (.vecs 161 2 o014), .arr (.rows 214 o015)]), (1, .arr true (.ints 3 .i64 o116))]⟩ K = PM.roundF A cx (PM.runD A cx (spec_FamAt_E A c_107 c_104 c_29).inl (spec_FamAt_E A c_107 c_104 c_29).Γ 3) (spec_FamAt_E A c_107 c_104 c_29) (spec_FamAt_L A c_107 c_104 c_29 n) 0 Go.Proofs.Try.f79 ⟨[(2, .int .i64 n4), (4, .pbox 0 0), (7, .sref 1), (8, .int .i64 i5)], [(0, .box [.int .i64 o06, .int .i64 o07, .int .i64 o08, .bool o09, .arr (.ints 3 .i64 o010), .arr (.vecs 161 2 o011), .arr (.vecs 225 3 o012), .arr (.ints 3 .i64 o013), .arr (.vecs 161 2 o014), .arr (.rows 214 o015)]), (1, .arr true (.ints 3 .i64 o116))]⟩ K := by kernel_rfl
theorem spec_FamAt_ok (A : PM.Prims) (c_107 : spec_l3Vals_T) (c_104 : spec_RowsOk_T) (c_29 : spec_Overlay_T) (__ : List Int) (a_Rv : Int) (a_Clock : Int) (a_Owner : Int) (a_Lost : Bool) (a_Regs : List Int) (a_Start : List (List Int)) (a_Buf : List (List Int)) (a_Order : List Int) (a_Reads : List (List Int)) (a_Kids : List (List PM.C)) (r : Int) (k : PM.V → PM.R) : PM.pfun A cx [] (spec_FamAt_E A c_107 c_104 c_29) Go.Proofs.Try.f79 [.arr (.ints 3 .i64 __), .agg [.int .i64 a_Rv, .int .i64 a_Clock, .int .i64 a_Owner, .bool a_Lost, .arr (.ints 3 .i64 a_Regs), .arr (.vecs 161 2 a_Start), .arr (.vecs 225 3 a_Buf), .arr (.ints 3 .i64 a_Order), .arr (.vecs 161 2 a_Reads), .arr (.rows 214 a_Kids)], .int .i64 r] k = spec_FamAt_f A c_107 c_104 c_29 __ a_Rv a_Clock a_Owner a_Lost a_Regs a_Start a_Buf a_Order a_Reads a_Kids r (fun r0 => k (.arr (.ints 3 .i64 r0))) := by kernel_rfl

theorem spec_FamAt_fn : PM.FnIs Try.prog 79 Try.f79 := .of Try.func79 (by kernel_rfl) (by kernel_rfl)
theorem spec_FamAt_g : PM.GOk Try.prog cx 79 ⟨[], spec_FamAt_w (spec_FamAt PM.std), none⟩ := by
  refine ⟨spec_FamAt_fn.enter, fun _ ds k r h => ?_, fun hm => absurd rfl hm, fun _ e => (by cases e)⟩
  change spec_FamAt_w (spec_FamAt PM.std) ds k = some r at h
  unfold spec_FamAt_w at h
  split at h
  · exact PM.pfun_ok (E := spec_FamAt_E PM.std (spec_l3Vals PM.std) (spec_RowsOk PM.std) (spec_Overlay PM.std)) (L := fun n => spec_FamAt_L PM.std (spec_l3Vals PM.std) (spec_RowsOk PM.std) (spec_Overlay PM.std) n) (N := PM.std.fuel) cx_ok (.cons spec_l3Vals_g (.cons spec_RowsOk_g (.cons spec_Overlay_g .nil))) mixed .nil spec_FamAt_fn (by kernel_rfl) ⟨rfl, fun cur σ K => by
      dsimp only [spec_FamAt_L]
      split <;> rfl, fun n cur σ K r h => by
      dsimp only [spec_FamAt_L] at h
      split at h
      · exact (spec_FamAt_l0_ok PM.std (spec_l3Vals PM.std) (spec_RowsOk PM.std) (spec_Overlay PM.std) n _ _ _ _ _ _ _ _ _ _ _ _ _ K).symm.trans h
      · cases h⟩
      ((spec_FamAt_ok PM.std (spec_l3Vals PM.std) (spec_RowsOk PM.std) (spec_Overlay PM.std) _ _ _ _ _ _ _ _ _ _ _ _ k).trans h)
  · cases h

abbrev impl_isCell_T := (Int) → ((Bool) → PM.R) → PM.R
noncomputable def impl_isCell_w (c : impl_isCell_T) (ds : List PM.V) (k : PM.V → PM.R) : PM.R :=
  match ds with
  | [.int .i64 i] => c i (fun r0 => k (.bool r0))
  | _ => none
noncomputable def impl_isCell_f (A : PM.Prims) (c_134 : impl_within_T) (i : Int) (k : (Bool) → PM.R) : PM.R :=
  c_134 i 0 7 (fun r1 =>
    k r1)
noncomputable def impl_isCell (A : PM.Prims) : impl_isCell_T := impl_isCell_f A (impl_within A)
noncomputable def impl_isCell_L (A : PM.Prims) (c_134 : impl_within_T) (n : Nat) : PM.Lam := fun cur σ K =>
  match cur, σ, K with
  | _, _, _ => none
noncomputable def impl_isCell_E (A : PM.Prims) (c_134 : impl_within_T) : PM.Env := ⟨[(134, ⟨[], impl_within_w c_134, none⟩)], [], [], [(0, [0]), (1, [2])], impl_isCell_L A c_134 A.fuel⟩
theorem impl_isCell_ok (A : PM.Prims) (c_134 : impl_within_T) (i : Int) (k : PM.V → PM.R) : PM.pfun A cx [] (impl_isCell_E A c_134) Go.Proofs.Try.f144 [.int .i64 i] k = impl_isCell_f A c_134 i (fun r0 => k (.bool r0)) := by kernel_rfl

theorem impl_isCell_fn : PM.FnIs Try.prog 144 Try.f144 := .of Try.func144 (by kernel_rfl) (by kernel_rfl)
theorem impl_isCell_g : PM.GOk Try.prog cx 144 ⟨[], impl_isCell_w (impl_isCell PM.std), none⟩ := by
  refine ⟨impl_isCell_fn.enter, fun _ ds k r h => ?_, fun hm => absurd rfl hm, fun _ e => (by cases e)⟩
  change impl_isCell_w (impl_isCell PM.std) ds k = some r at h
  unfold impl_isCell_w at h
  split at h
  · exact PM.pfun_ok (E := impl_isCell_E PM.std (impl_within PM.std)) (L := fun n => impl_isCell_L PM.std (impl_within PM.std) n) (N := PM.std.fuel) cx_ok (.cons impl_within_g .nil) mixed .nil impl_isCell_fn (by kernel_rfl) ⟨rfl, fun _ _ _ => rfl, fun n cur σ K r h => by cases h⟩
      ((impl_isCell_ok PM.std (impl_within PM.std) _ k).trans h)
  · cases h

abbrev impl_RowsOk_T := (List (List Int)) → ((Bool) → PM.R) → PM.R
noncomputable def impl_RowsOk_w (c : impl_RowsOk_T) (ds : List PM.V) (k : PM.V → PM.R) : PM.R :=
  match ds with
  | [.arr (.vecs 161 2 l)] => c l (fun r0 => k (.bool r0))
  | _ => none
noncomputable def impl_RowsOk_l0 (A : PM.Prims) (c_144 : impl_isCell_T) (c_193 : impl_isValue_T) : Nat → (List (List Int)) → (List (List Int)) → (Int) → (Int) → ((Bool) → PM.R) → ((List (List Int)) → PM.R) → PM.R
  | 0, _, _, _, _, _, _ => none
  | n + 1, l1, t52, t63, t74, kret_0, kx0_0 =>
    bif (A.lt t74 t63) then
      bif (A.inb t74 (A.vlen t52)) then
        c_144 (A.vget t52 t74 0) (fun r5 =>
          bif (A.not r5) then
            kret_0 false
          else
            c_193 (A.vget t52 t74 1) (fun r7 =>
              bif (A.not r7) then
                kret_0 false
              else
                impl_RowsOk_l0 A c_144 c_193 n l1 t52 t63 (A.add .i64 t74 1) kret_0 kx0_0))
      else
        none
    else
      kx0_0 l1
noncomputable def impl_RowsOk_f (A : PM.Prims) (c_144 : impl_isCell_T) (c_193 : impl_isValue_T) (l : List (List Int)) (k : (Bool) → PM.R) : PM.R :=
  impl_RowsOk_l0 A c_144 c_193 A.fuel l l (A.vlen l) 0 (fun t269 =>
    k t269) (fun l810 =>
    k (A.le (A.vlen l810) 300))
noncomputable def impl_RowsOk (A : PM.Prims) : impl_RowsOk_T := impl_RowsOk_f A (impl_isCell A) (impl_isValue A)
noncomputable def impl_RowsOk_L (A : PM.Prims) (c_144 : impl_isCell_T) (c_193 : impl_isValue_T) (n : Nat) : PM.Lam := fun cur σ K =>
  match cur, σ, K with
  | 0, ⟨[(0, .arr (.vecs 161 2 l1)), (5, .arr (.vecs 161 2 t52)), (6, .int .i64 t63), (7, .int .i64 t74)], []⟩, K => impl_RowsOk_l0 A c_144 c_193 n l1 t52 t63 t74 (fun t26 => K .ret ⟨[(2, .bool t26)], []⟩) (fun l8 => K (.exit 0) ⟨[(0, .arr (.vecs 161 2 l8))], []⟩)
  | _, _, _ => none
noncomputable def impl_RowsOk_E (A : PM.Prims) (c_144 : impl_isCell_T) (c_193 : impl_isValue_T) : PM.Env := ⟨[(144, ⟨[], impl_isCell_w c_144, none⟩), (193, ⟨[], impl_isValue_w c_193, none⟩)], [], [(0, [0, 5, 6, 7], [0, 2])], [(0, [0]), (1, [0, 5, 6, 7]), (2, [0, 5, 6, 7, 8]), (3, [0, 4, 5, 6, 7]), (4, [0, 5, 6, 7, 20]), (5, [2]), (6, [0, 5, 6, 7]), (7, [2])], impl_RowsOk_L A c_144 c_193 A.fuel⟩
theorem impl_RowsOk_l0_ok (A : PM.Prims) (c_144 : impl_isCell_T) (c_193 : impl_isValue_T) (n : Nat) (l1 : List (List Int)) (t52 : List (List Int)) (t63 : Int) (t74 : Int) (K : Go.Exit → PM.S → PM.R) : impl_RowsOk_L A c_144 c_193 (n + 1) 0 ⟨[(0, .arr (.vecs 161 2 l1)), (5, .arr (.vecs 161 2 t52)), (6, .int .i64 t63), (7, .int .i64 t74)], []⟩ K = PM.roundF A cx (PM.runD A cx (impl_RowsOk_E A c_144 c_193).inl (impl_RowsOk_E A c_144 c_193).Γ 3) (impl_RowsOk_E A c_144 c_193) (impl_RowsOk_L A c_144 c_193 n) 0 Go.Proofs.Try.f128 ⟨[(0, .arr (.vecs 161 2 l1)), (5, .arr (.vecs 161 2 t52)), (6, .int .i64 t63), (7, .int .i64 t74)], []⟩ K := by kernel_rfl
theorem impl_RowsOk_ok (A : PM.Prims) (c_144 : impl_isCell_T) (c_193 : impl_isValue_T) (l : List (List Int)) (k : PM.V → PM.R) : PM.pfun A cx [] (impl_RowsOk_E A c_144 c_193) Go.Proofs.Try.f128 [.arr (.vecs 161 2 l)] k = impl_RowsOk_f A c_144 c_193 l (fun r0 => k (.bool r0)) := by kernel_rfl

theorem impl_RowsOk_fn : PM.FnIs Try.prog 128 Try.f128 := .of Try.func128 (by kernel_rfl) (by kernel_rfl)
theorem impl_RowsOk_g : PM.GOk Try.prog cx 128 ⟨[], impl_RowsOk_w (impl_RowsOk PM.std), none⟩ := by
  refine ⟨impl_RowsOk_fn.enter, fun _ ds k r h => ?_, fun hm => absurd rfl hm, fun _ e => (by cases e)⟩
  change impl_RowsOk_w (impl_RowsOk PM.std) ds k = some r at h
  unfold impl_RowsOk_w at h
  split at h
  · exact PM.pfun_ok (E := impl_RowsOk_E PM.std (impl_isCell PM.std) (impl_isValue PM.std)) (L := fun n => impl_RowsOk_L PM.std (impl_isCell PM.std) (impl_isValue PM.std) n) (N := PM.std.fuel) cx_ok (.cons impl_isCell_g (.cons impl_isValue_g .nil)) mixed .nil impl_RowsOk_fn (by kernel_rfl) ⟨rfl, fun cur σ K => by
      dsimp only [impl_RowsOk_L]
      split <;> rfl, fun n cur σ K r h => by
      dsimp only [impl_RowsOk_L] at h
      split at h
      · exact (impl_RowsOk_l0_ok PM.std (impl_isCell PM.std) (impl_isValue PM.std) n _ _ _ _ K).symm.trans h
      · cases h⟩
      ((impl_RowsOk_ok PM.std (impl_isCell PM.std) (impl_isValue PM.std) _ k).trans h)
  · cases h

abbrev impl_Overlay_T := (List Int) → (List (List Int)) → ((List Int) → PM.R) → PM.R
noncomputable def impl_Overlay_w (c : impl_Overlay_T) (ds : List PM.V) (k : PM.V → PM.R) : PM.R :=
  match ds with
  | [.arr (.ints 3 .i64 cells), .arr (.vecs 161 2 l)] => c cells l (fun r0 => k (.arr (.ints 3 .i64 r0)))
  | _ => none
noncomputable def impl_Overlay_l0 (A : PM.Prims) (c_128 : impl_RowsOk_T) (c_97 : impl_areValues_T) (c_101 : impl_copyInts_T) : Nat → (List (List Int)) → (Int) → (Int) → (List Int) → ((List Int) → PM.R) → PM.R
  | 0, _, _, _, _, _ => none
  | n + 1, t184, t195, t206, o07, kx0_0 =>
    bif (A.lt t206 t195) then
      bif (A.inb t206 (A.vlen t184)) then
        bif (A.inb (A.vget t184 t206 0) (A.ilen o07)) then
          impl_Overlay_l0 A c_128 c_97 c_101 n t184 t195 (A.add .i64 t206 1) (A.iset o07 (A.vget t184 t206 0) (A.vget t184 t206 1)) kx0_0
        else
          none
      else
        none
    else
      kx0_0 o07
noncomputable def impl_Overlay_f (A : PM.Prims) (c_128 : impl_RowsOk_T) (c_97 : impl_areValues_T) (c_101 : impl_copyInts_T) (cells : List Int) (l : List (List Int)) (k : (List Int) → PM.R) : PM.R :=
  c_97 cells 8 (fun r1 =>
    bif (A.not r1) then
      k []
    else
      c_128 l (fun r2 =>
        bif (A.not r2) then
          k []
        else
          c_101 cells (fun r3 =>
            impl_Overlay_l0 A c_128 c_97 c_101 A.fuel l (A.vlen l) 0 r3 (fun o089 =>
              k o089))))
noncomputable def impl_Overlay (A : PM.Prims) : impl_Overlay_T := impl_Overlay_f A (impl_RowsOk A) (impl_areValues A) (impl_copyInts A)
noncomputable def impl_Overlay_L (A : PM.Prims) (c_128 : impl_RowsOk_T) (c_97 : impl_areValues_T) (c_101 : impl_copyInts_T) (n : Nat) : PM.Lam := fun cur σ K =>
  match cur, σ, K with
  | 0, ⟨[(5, .sref 0), (18, .arr (.vecs 161 2 t184)), (19, .int .i64 t195), (20, .int .i64 t206)], [(0, .arr true (.ints 3 .i64 o07))]⟩, K => impl_Overlay_l0 A c_128 c_97 c_101 n t184 t195 t206 o07 (fun o08 => K (.exit 0) ⟨[(5, .sref 0)], [(0, .arr true (.ints 3 .i64 o08))]⟩)
  | _, _, _ => none
noncomputable def impl_Overlay_E (A : PM.Prims) (c_128 : impl_RowsOk_T) (c_97 : impl_areValues_T) (c_101 : impl_copyInts_T) : PM.Env := ⟨[(128, ⟨[], impl_RowsOk_w c_128, none⟩), (97, ⟨[], impl_areValues_w c_97, none⟩), (101, ⟨[], impl_copyInts_w c_101, none⟩)], [], [(0, [5, 18, 19, 20], [4, 5])], [(0, [0, 1]), (1, [0, 1, 15]), (2, [4]), (3, [1, 5]), (4, [5, 18, 19, 20]), (5, [5, 18, 19, 20, 21]), (6, [5, 7, 18, 19, 20]), (7, [5, 18, 19, 20]), (8, [5, 18, 19, 20]), (9, [4])], impl_Overlay_L A c_128 c_97 c_101 A.fuel⟩
theorem impl_Overlay_l0_ok (A : PM.Prims) (c_128 : impl_RowsOk_T) (c_97 : impl_areValues_T) (c_101 : impl_copyInts_T) (n : Nat) (t184 : List (List Int)) (t195 : Int) (t206 : Int) (o07 : List Int) (K : Go.Exit → PM.S → PM.R) : impl_Overlay_L A c_128 c_97 c_101 (n + 1) 0 ⟨[(5, .sref 0), (18, .arr (.vecs 161 2 t184)), (19, .int .i64 t195), (20, .int .i64 t206)], [(0, .arr true (.ints 3 .i64 o07))]⟩ K = PM.roundF A cx (PM.runD A cx (impl_Overlay_E A c_128 c_97 c_101).inl (impl_Overlay_E A c_128 c_97 c_101).Γ 3) (impl_Overlay_E A c_128 c_97 c_101) (impl_Overlay_L A c_128 c_97 c_101 n) 0 Go.Proofs.Try.f102 ⟨[(5, .sref 0), (18, .arr (.vecs 161 2 t184)), (19, .int .i64 t195), (20, .int .i64 t206)], [(0, .arr true (.ints 3 .i64 o07))]⟩ K := by kernel_rfl
theorem impl_Overlay_ok (A : PM.Prims) (c_128 : impl_RowsOk_T) (c_97 : impl_areValues_T) (c_101 : impl_copyInts_T) (cells : List Int) (l : List (List Int)) (k : PM.V → PM.R) : PM.pfun A cx [] (impl_Overlay_E A c_128 c_97 c_101) Go.Proofs.Try.f102 [.arr (.ints 3 .i64 cells), .arr (.vecs 161 2 l)] k = impl_Overlay_f A c_128 c_97 c_101 cells l (fun r0 => k (.arr (.ints 3 .i64 r0))) := by kernel_rfl

theorem impl_Overlay_fn : PM.FnIs Try.prog 102 Try.f102 := .of Try.func102 (by kernel_rfl) (by kernel_rfl)
theorem impl_Overlay_g : PM.GOk Try.prog cx 102 ⟨[], impl_Overlay_w (impl_Overlay PM.std), none⟩ := by
  refine ⟨impl_Overlay_fn.enter, fun _ ds k r h => ?_, fun hm => absurd rfl hm, fun _ e => (by cases e)⟩
  change impl_Overlay_w (impl_Overlay PM.std) ds k = some r at h
  unfold impl_Overlay_w at h
  split at h
  · exact PM.pfun_ok (E := impl_Overlay_E PM.std (impl_RowsOk PM.std) (impl_areValues PM.std) (impl_copyInts PM.std)) (L := fun n => impl_Overlay_L PM.std (impl_RowsOk PM.std) (impl_areValues PM.std) (impl_copyInts PM.std) n) (N := PM.std.fuel) cx_ok (.cons impl_RowsOk_g (.cons impl_areValues_g (.cons impl_copyInts_g .nil))) mixed .nil impl_Overlay_fn (by kernel_rfl) ⟨rfl, fun cur σ K => by
      dsimp only [impl_Overlay_L]
      split <;> rfl, fun n cur σ K r h => by
      dsimp only [impl_Overlay_L] at h
      split at h
      · exact (impl_Overlay_l0_ok PM.std (impl_RowsOk PM.std) (impl_areValues PM.std) (impl_copyInts PM.std) n _ _ _ _ K).symm.trans h
      · cases h⟩
      ((impl_Overlay_ok PM.std (impl_RowsOk PM.std) (impl_areValues PM.std) (impl_copyInts PM.std) _ _ k).trans h)
  · cases h

abbrev impl_FamAt_T := (List Int) → (Int) → (Int) → (Int) → (Bool) → (List Int) → (List (List Int)) → (List (List Int)) → (List Int) → (List (List Int)) → (List (List PM.C)) → (Int) → ((List Int) → PM.R) → PM.R
noncomputable def impl_FamAt_w (c : impl_FamAt_T) (ds : List PM.V) (k : PM.V → PM.R) : PM.R :=
  match ds with
  | [.arr (.ints 3 .i64 base), .agg [.int .i64 f_Rv, .int .i64 f_Clock, .int .i64 f_Owner, .bool f_Lost, .arr (.ints 3 .i64 f_Regs), .arr (.vecs 161 2 f_Start), .arr (.vecs 225 3 f_Buf), .arr (.ints 3 .i64 f_Order), .arr (.vecs 161 2 f_Reads), .arr (.rows 214 f_Kids)], .int .i64 n_] => c base f_Rv f_Clock f_Owner f_Lost f_Regs f_Start f_Buf f_Order f_Reads f_Kids n_ (fun r0 => k (.arr (.ints 3 .i64 r0)))
  | _ => none
noncomputable def impl_FamAt_l0 (A : PM.Prims) (c_134 : impl_within_T) (c_97 : impl_areValues_T) (c_128 : impl_RowsOk_T) (c_102 : impl_Overlay_T) : Nat → (Int) → (List Int) → (Int) → (Int) → (Int) → (Int) → (Int) → (Bool) → (List Int) → (List (List Int)) → (List (List Int)) → (List Int) → (List (List Int)) → (List (List C)) → (List Int) → ((List Int) → PM.R) → PM.R
  | 0, _, _, _, _, _, _, _, _, _, _, _, _, _, _, _, _ => none
  | n + 1, n4, t245, t256, t267, o08, o09, o010, o011, o012, o013, o014, o015, o016, o017, o118, kx0_0 =>
    bif (A.lt t267 t256) then
      bif (A.inb t267 (A.ilen t245)) then
        bif (A.lt t267 n4) then
          c_134 (A.iget t245 t267) 0 (A.sub .i64 (A.rlen o017) 1) (fun r19 =>
            bif r19 then
              bif (A.inb (A.iget t245 t267) (A.rlen o017)) then
                c_128 (A.rsv 2 o017 (A.iget t245 t267) 8) (fun r20 =>
                  bif r20 then
                    bif (A.inb (A.iget t245 t267) (A.rlen o017)) then
                      c_102 o118 (A.rsv 2 o017 (A.iget t245 t267) 8) (fun r21 =>
                        impl_FamAt_l0 A c_134 c_97 c_128 c_102 n n4 t245 t256 (A.add .i64 t267 1) o08 o09 o010 o011 o012 o013 o014 o015 o016 o017 r21 kx0_0)
                    else
                      none
                  else
                    impl_FamAt_l0 A c_134 c_97 c_128 c_102 n n4 t245 t256 (A.add .i64 t267 1) o08 o09 o010 o011 o012 o013 o014 o015 o016 o017 o118 kx0_0)
              else
                none
            else
              impl_FamAt_l0 A c_134 c_97 c_128 c_102 n n4 t245 t256 (A.add .i64 t267 1) o08 o09 o010 o011 o012 o013 o014 o015 o016 o017 o118 kx0_0)
        else
          impl_FamAt_l0 A c_134 c_97 c_128 c_102 n n4 t245 t256 (A.add .i64 t267 1) o08 o09 o010 o011 o012 o013 o014 o015 o016 o017 o118 kx0_0
      else
        none
    else
      kx0_0 o118
noncomputable def impl_FamAt_f (A : PM.Prims) (c_134 : impl_within_T) (c_97 : impl_areValues_T) (c_128 : impl_RowsOk_T) (c_102 : impl_Overlay_T) (base : List Int) (f_Rv : Int) (f_Clock : Int) (f_Owner : Int) (f_Lost : Bool) (f_Regs : List Int) (f_Start : List (List Int)) (f_Buf : List (List Int)) (f_Order : List Int) (f_Reads : List (List Int)) (f_Kids : List (List PM.C)) (n_ : Int) (k : (List Int) → PM.R) : PM.R :=
  c_97 base 8 (fun r1 =>
    bif (A.not r1) then
      k []
    else
      c_128 f_Start (fun r2 =>
        bif (A.not r2) then
          k []
        else
          c_102 base f_Start (fun r3 =>
            impl_FamAt_l0 A c_134 c_97 c_128 c_102 A.fuel n_ f_Order (A.ilen f_Order) 0 f_Rv f_Clock f_Owner f_Lost f_Regs f_Start f_Buf f_Order f_Reads f_Kids r3 (fun o02223 =>
              k o02223))))
noncomputable def impl_FamAt (A : PM.Prims) : impl_FamAt_T := impl_FamAt_f A (impl_within A) (impl_areValues A) (impl_RowsOk A) (impl_Overlay A)
noncomputable def impl_FamAt_L (A : PM.Prims) (c_134 : impl_within_T) (c_97 : impl_areValues_T) (c_128 : impl_RowsOk_T) (c_102 : impl_Overlay_T) (n : Nat) : PM.Lam := fun cur σ K =>
  match cur, σ, K with
  | 0, ⟨[(2, .int .i64 n4), (4, .pbox 0 0), (7, .sref 1), (24, .arr (.ints 3 .i64 t245)), (25, .int .i64 t256), (26, .int .i64 t267)], [(0, .box [.int .i64 o08, .int .i64 o09, .int .i64 o010, .bool o011, .arr (.ints 3 .i64 o012), .arr (.vecs 161 2 o013), .arr (.vecs 225 3 o014), .arr (.ints 3 .i64 o015), .arr (.vecs 161 2 o016), .arr (.rows 214 o017)]), (1, .arr true (.ints 3 .i64 o118))]⟩, K => impl_FamAt_l0 A c_134 c_97 c_128 c_102 n n4 t245 t256 t267 o08 o09 o010 o011 o012 o013 o014 o015 o016 o017 o118 (fun o022 => K (.exit 0) ⟨[(7, .sref 0)], [(0, .arr true (.ints 3 .i64 o022))]⟩)
  | _, _, _ => none
noncomputable def impl_FamAt_E (A : PM.Prims) (c_134 : impl_within_T) (c_97 : impl_areValues_T) (c_128 : impl_RowsOk_T) (c_102 : impl_Overlay_T) : PM.Env := ⟨[(134, ⟨[], impl_within_w c_134, none⟩), (97, ⟨[], impl_areValues_w c_97, none⟩), (128, ⟨[], impl_RowsOk_w c_128, none⟩), (102, ⟨[], impl_Overlay_w c_102, none⟩)], [], [(0, [2, 4, 7, 24, 25, 26], [6, 7])], [(0, [0, 2, 4]), (1, [0, 2, 4, 18]), (2, [6]), (3, [2, 4, 7]), (4, [2, 4, 7, 24, 25, 26]), (5, [2, 4, 7, 24, 25, 26, 27]), (6, [2, 4, 7, 8, 9, 24, 25, 26]), (7, [2, 4, 7, 9, 24, 25, 26, 50]), (8, [2, 4, 7, 24, 25, 26]), (9, [2, 4, 7, 24, 25, 26]), (10, [6])], impl_FamAt_L A c_134 c_97 c_128 c_102 A.fuel⟩
theorem impl_FamAt_l0_ok (A : PM.Prims) (c_134 : impl_within_T) (c_97 : impl_areValues_T) (c_128 : impl_RowsOk_T) (c_102 : impl_Overlay_T) (n : Nat) (n4 : Int) (t245 : List Int) (t256 : Int) (t267 : Int) (o08 : Int) (o09 : Int) (o010 : Int) (o011 : Bool) (o012 : List Int) (o013 : List (List Int)) (o014 : List (List Int)) (o015 : List Int) (o016 : List (List Int)) (o017 : List (List C)) (o118 : List Int) (K : Go.Exit → PM.S → PM.R) : impl_FamAt_L A c_134 c_97 c_128 c_102 (n + 1) 0 ⟨[(2, .int .i64 n4), (4, .pbox 0 0), (7, .sref 1), (24, .arr (.ints 3 .i64 t245)), (25, .int .i64 t256), (26, .int .i64 t267)], [(0, .box [.int .i64 o08, .int .i64 o09, .int .i64 o010, .bool o011, .arr (.ints 3 .i64 o012), .arr (.vecs 161 2 o013), .arr (.vecs 225 3 o014), .arr (.ints 3 .i64 o015), .arr (.vecs 161 2 o016), .arr (.rows 214 o017)]), (1, .arr true (.ints 3 .i64 o118))]⟩ K = PM.roundF A cx (PM.runD A cx (impl_FamAt_E A c_134 c_97 c_128 c_102).inl (impl_FamAt_E A c_134 c_97 c_128 c_102).Γ 3) (impl_FamAt_E A c_134 c_97 c_128 c_102) (impl_FamAt_L A c_134 c_97 c_128 c_102 n) 0 Go.Proofs.Try.f80 ⟨[(2, .int .i64 n4), (4, .pbox 0 0), (7, .sref 1), (24, .arr (.ints 3 .i64 t245)), (25, .int .i64 t256), (26, .int .i64 t267)], [(0, .box [.int .i64 o08, .int .i64 o09, .int .i64 o010, .bool o011, .arr (.ints 3 .i64 o012), .arr (.vecs 161 2 o013), .arr (.vecs 225 3 o014), .arr (.ints 3 .i64 o015), .arr (.vecs 161 2 o016), .arr (.rows 214 o017)]), (1, .arr true (.ints 3 .i64 o118))]⟩ K := by kernel_rfl
theorem impl_FamAt_ok (A : PM.Prims) (c_134 : impl_within_T) (c_97 : impl_areValues_T) (c_128 : impl_RowsOk_T) (c_102 : impl_Overlay_T) (base : List Int) (f_Rv : Int) (f_Clock : Int) (f_Owner : Int) (f_Lost : Bool) (f_Regs : List Int) (f_Start : List (List Int)) (f_Buf : List (List Int)) (f_Order : List Int) (f_Reads : List (List Int)) (f_Kids : List (List PM.C)) (n_ : Int) (k : PM.V → PM.R) : PM.pfun A cx [] (impl_FamAt_E A c_134 c_97 c_128 c_102) Go.Proofs.Try.f80 [.arr (.ints 3 .i64 base), .agg [.int .i64 f_Rv, .int .i64 f_Clock, .int .i64 f_Owner, .bool f_Lost, .arr (.ints 3 .i64 f_Regs), .arr (.vecs 161 2 f_Start), .arr (.vecs 225 3 f_Buf), .arr (.ints 3 .i64 f_Order), .arr (.vecs 161 2 f_Reads), .arr (.rows 214 f_Kids)], .int .i64 n_] k = impl_FamAt_f A c_134 c_97 c_128 c_102 base f_Rv f_Clock f_Owner f_Lost f_Regs f_Start f_Buf f_Order f_Reads f_Kids n_ (fun r0 => k (.arr (.ints 3 .i64 r0))) := by kernel_rfl

theorem impl_FamAt_fn : PM.FnIs Try.prog 80 Try.f80 := .of Try.func80 (by kernel_rfl) (by kernel_rfl)
theorem impl_FamAt_g : PM.GOk Try.prog cx 80 ⟨[], impl_FamAt_w (impl_FamAt PM.std), none⟩ := by
  refine ⟨impl_FamAt_fn.enter, fun _ ds k r h => ?_, fun hm => absurd rfl hm, fun _ e => (by cases e)⟩
  change impl_FamAt_w (impl_FamAt PM.std) ds k = some r at h
  unfold impl_FamAt_w at h
  split at h
  · exact PM.pfun_ok (E := impl_FamAt_E PM.std (impl_within PM.std) (impl_areValues PM.std) (impl_RowsOk PM.std) (impl_Overlay PM.std)) (L := fun n => impl_FamAt_L PM.std (impl_within PM.std) (impl_areValues PM.std) (impl_RowsOk PM.std) (impl_Overlay PM.std) n) (N := PM.std.fuel) cx_ok (.cons impl_within_g (.cons impl_areValues_g (.cons impl_RowsOk_g (.cons impl_Overlay_g .nil)))) mixed .nil impl_FamAt_fn (by kernel_rfl) ⟨rfl, fun cur σ K => by
      dsimp only [impl_FamAt_L]
      split <;> rfl, fun n cur σ K r h => by
      dsimp only [impl_FamAt_L] at h
      split at h
      · exact (impl_FamAt_l0_ok PM.std (impl_within PM.std) (impl_areValues PM.std) (impl_RowsOk PM.std) (impl_Overlay PM.std) n _ _ _ _ _ _ _ _ _ _ _ _ _ _ _ K).symm.trans h
      · cases h⟩
      ((impl_FamAt_ok PM.std (impl_within PM.std) (impl_areValues PM.std) (impl_RowsOk PM.std) (impl_Overlay PM.std) _ _ _ _ _ _ _ _ _ _ _ _ k).trans h)
  · cases h

abbrev laws_FnExactFamAt_T := (List Int) → (Int) → (Int) → (Int) → (Bool) → (List Int) → (List (List Int)) → (List (List Int)) → (List Int) → (List (List Int)) → (List (List PM.C)) → (Int) → ((Bool) → PM.R) → PM.R
noncomputable def laws_FnExactFamAt_w (c : laws_FnExactFamAt_T) (ds : List PM.V) (k : PM.V → PM.R) : PM.R :=
  match ds with
  | [.arr (.ints 3 .i64 __), .agg [.int .i64 a_Rv, .int .i64 a_Clock, .int .i64 a_Owner, .bool a_Lost, .arr (.ints 3 .i64 a_Regs), .arr (.vecs 297 2 a_Start), .arr (.vecs 299 3 a_Buf), .arr (.ints 3 .i64 a_Order), .arr (.vecs 297 2 a_Reads), .arr (.rows 295 a_Kids)], .int .i64 r] => c __ a_Rv a_Clock a_Owner a_Lost a_Regs a_Start a_Buf a_Order a_Reads a_Kids r (fun r0 => k (.bool r0))
  | _ => none
noncomputable def laws_FnExactFamAt_f (A : PM.Prims) (c_57 : laws_szFamily_T) (c_37 : laws_toIntS_T) (c_59 : laws_toFamily_T) (c_40 : laws_eqIntS_T) (c_61 : laws_eqFamily_T) (c_67 : laws_markFamily_T) (c_54 : laws_markIntS_T) (c_56 : laws_heldIntS_T) (c_79 : spec_FamAt_T) (c_80 : impl_FamAt_T) (__ : List Int) (a_Rv : Int) (a_Clock : Int) (a_Owner : Int) (a_Lost : Bool) (a_Regs : List Int) (a_Start : List (List Int)) (a_Buf : List (List Int)) (a_Order : List Int) (a_Reads : List (List Int)) (a_Kids : List (List PM.C)) (r : Int) (k : (Bool) → PM.R) : PM.R :=
  bif (A.lt 1048576 (A.ilen __)) then
    k true
  else
    c_57 (A.rint [[(.i a_Rv), (.i a_Clock), (.i a_Owner), (.b a_Lost), (.s (A.ofi a_Regs)), (.s (A.ofv a_Start)), (.s (A.ofv a_Buf)), (.s (A.ofi a_Order)), (.s (A.ofv a_Reads)), (.s a_Kids)]] 0 0) (A.rint [[(.i a_Rv), (.i a_Clock), (.i a_Owner), (.b a_Lost), (.s (A.ofi a_Regs)), (.s (A.ofv a_Start)), (.s (A.ofv a_Buf)), (.s (A.ofi a_Order)), (.s (A.ofv a_Reads)), (.s a_Kids)]] 0 1) (A.rint [[(.i a_Rv), (.i a_Clock), (.i a_Owner), (.b a_Lost), (.s (A.ofi a_Regs)), (.s (A.ofv a_Start)), (.s (A.ofv a_Buf)), (.s (A.ofi a_Order)), (.s (A.ofv a_Reads)), (.s a_Kids)]] 0 2) (A.rbool [[(.i a_Rv), (.i a_Clock), (.i a_Owner), (.b a_Lost), (.s (A.ofi a_Regs)), (.s (A.ofv a_Start)), (.s (A.ofv a_Buf)), (.s (A.ofi a_Order)), (.s (A.ofv a_Reads)), (.s a_Kids)]] 0 3) (A.rsi [[(.i a_Rv), (.i a_Clock), (.i a_Owner), (.b a_Lost), (.s (A.ofi a_Regs)), (.s (A.ofv a_Start)), (.s (A.ofv a_Buf)), (.s (A.ofi a_Order)), (.s (A.ofv a_Reads)), (.s a_Kids)]] 0 4) (A.rsv 2 [[(.i a_Rv), (.i a_Clock), (.i a_Owner), (.b a_Lost), (.s (A.ofi a_Regs)), (.s (A.ofv a_Start)), (.s (A.ofv a_Buf)), (.s (A.ofi a_Order)), (.s (A.ofv a_Reads)), (.s a_Kids)]] 0 5) (A.rsv 3 [[(.i a_Rv), (.i a_Clock), (.i a_Owner), (.b a_Lost), (.s (A.ofi a_Regs)), (.s (A.ofv a_Start)), (.s (A.ofv a_Buf)), (.s (A.ofi a_Order)), (.s (A.ofv a_Reads)), (.s a_Kids)]] 0 6) (A.rsi [[(.i a_Rv), (.i a_Clock), (.i a_Owner), (.b a_Lost), (.s (A.ofi a_Regs)), (.s (A.ofv a_Start)), (.s (A.ofv a_Buf)), (.s (A.ofi a_Order)), (.s (A.ofv a_Reads)), (.s a_Kids)]] 0 7) (A.rsv 2 [[(.i a_Rv), (.i a_Clock), (.i a_Owner), (.b a_Lost), (.s (A.ofi a_Regs)), (.s (A.ofv a_Start)), (.s (A.ofv a_Buf)), (.s (A.ofi a_Order)), (.s (A.ofv a_Reads)), (.s a_Kids)]] 0 8) (A.rsr [[(.i a_Rv), (.i a_Clock), (.i a_Owner), (.b a_Lost), (.s (A.ofi a_Regs)), (.s (A.ofv a_Start)), (.s (A.ofv a_Buf)), (.s (A.ofi a_Order)), (.s (A.ofv a_Reads)), (.s a_Kids)]] 0 9) 1048576 (fun r1 =>
      bif (A.lt r1 0) then
        k true
      else
        c_37 __ (fun r2 =>
          c_59 (A.rint [[(.i a_Rv), (.i a_Clock), (.i a_Owner), (.b a_Lost), (.s (A.ofi a_Regs)), (.s (A.ofv a_Start)), (.s (A.ofv a_Buf)), (.s (A.ofi a_Order)), (.s (A.ofv a_Reads)), (.s a_Kids)]] 0 0) (A.rint [[(.i a_Rv), (.i a_Clock), (.i a_Owner), (.b a_Lost), (.s (A.ofi a_Regs)), (.s (A.ofv a_Start)), (.s (A.ofv a_Buf)), (.s (A.ofi a_Order)), (.s (A.ofv a_Reads)), (.s a_Kids)]] 0 1) (A.rint [[(.i a_Rv), (.i a_Clock), (.i a_Owner), (.b a_Lost), (.s (A.ofi a_Regs)), (.s (A.ofv a_Start)), (.s (A.ofv a_Buf)), (.s (A.ofi a_Order)), (.s (A.ofv a_Reads)), (.s a_Kids)]] 0 2) (A.rbool [[(.i a_Rv), (.i a_Clock), (.i a_Owner), (.b a_Lost), (.s (A.ofi a_Regs)), (.s (A.ofv a_Start)), (.s (A.ofv a_Buf)), (.s (A.ofi a_Order)), (.s (A.ofv a_Reads)), (.s a_Kids)]] 0 3) (A.rsi [[(.i a_Rv), (.i a_Clock), (.i a_Owner), (.b a_Lost), (.s (A.ofi a_Regs)), (.s (A.ofv a_Start)), (.s (A.ofv a_Buf)), (.s (A.ofi a_Order)), (.s (A.ofv a_Reads)), (.s a_Kids)]] 0 4) (A.rsv 2 [[(.i a_Rv), (.i a_Clock), (.i a_Owner), (.b a_Lost), (.s (A.ofi a_Regs)), (.s (A.ofv a_Start)), (.s (A.ofv a_Buf)), (.s (A.ofi a_Order)), (.s (A.ofv a_Reads)), (.s a_Kids)]] 0 5) (A.rsv 3 [[(.i a_Rv), (.i a_Clock), (.i a_Owner), (.b a_Lost), (.s (A.ofi a_Regs)), (.s (A.ofv a_Start)), (.s (A.ofv a_Buf)), (.s (A.ofi a_Order)), (.s (A.ofv a_Reads)), (.s a_Kids)]] 0 6) (A.rsi [[(.i a_Rv), (.i a_Clock), (.i a_Owner), (.b a_Lost), (.s (A.ofi a_Regs)), (.s (A.ofv a_Start)), (.s (A.ofv a_Buf)), (.s (A.ofi a_Order)), (.s (A.ofv a_Reads)), (.s a_Kids)]] 0 7) (A.rsv 2 [[(.i a_Rv), (.i a_Clock), (.i a_Owner), (.b a_Lost), (.s (A.ofi a_Regs)), (.s (A.ofv a_Start)), (.s (A.ofv a_Buf)), (.s (A.ofi a_Order)), (.s (A.ofv a_Reads)), (.s a_Kids)]] 0 8) (A.rsr [[(.i a_Rv), (.i a_Clock), (.i a_Owner), (.b a_Lost), (.s (A.ofi a_Regs)), (.s (A.ofv a_Start)), (.s (A.ofv a_Buf)), (.s (A.ofi a_Order)), (.s (A.ofv a_Reads)), (.s a_Kids)]] 0 9) (fun r3 r4 r5 r6 r7 r8 r9 r10 r11 r12 =>
            c_79 r2 r3 r4 r5 r6 r7 r8 r9 r10 r11 r12 r (fun r13 =>
              c_37 __ (fun r14 =>
                c_59 (A.rint [[(.i a_Rv), (.i a_Clock), (.i a_Owner), (.b a_Lost), (.s (A.ofi a_Regs)), (.s (A.ofv a_Start)), (.s (A.ofv a_Buf)), (.s (A.ofi a_Order)), (.s (A.ofv a_Reads)), (.s a_Kids)]] 0 0) (A.rint [[(.i a_Rv), (.i a_Clock), (.i a_Owner), (.b a_Lost), (.s (A.ofi a_Regs)), (.s (A.ofv a_Start)), (.s (A.ofv a_Buf)), (.s (A.ofi a_Order)), (.s (A.ofv a_Reads)), (.s a_Kids)]] 0 1) (A.rint [[(.i a_Rv), (.i a_Clock), (.i a_Owner), (.b a_Lost), (.s (A.ofi a_Regs)), (.s (A.ofv a_Start)), (.s (A.ofv a_Buf)), (.s (A.ofi a_Order)), (.s (A.ofv a_Reads)), (.s a_Kids)]] 0 2) (A.rbool [[(.i a_Rv), (.i a_Clock), (.i a_Owner), (.b a_Lost), (.s (A.ofi a_Regs)), (.s (A.ofv a_Start)), (.s (A.ofv a_Buf)), (.s (A.ofi a_Order)), (.s (A.ofv a_Reads)), (.s a_Kids)]] 0 3) (A.rsi [[(.i a_Rv), (.i a_Clock), (.i a_Owner), (.b a_Lost), (.s (A.ofi a_Regs)), (.s (A.ofv a_Start)), (.s (A.ofv a_Buf)), (.s (A.ofi a_Order)), (.s (A.ofv a_Reads)), (.s a_Kids)]] 0 4) (A.rsv 2 [[(.i a_Rv), (.i a_Clock), (.i a_Owner), (.b a_Lost), (.s (A.ofi a_Regs)), (.s (A.ofv a_Start)), (.s (A.ofv a_Buf)), (.s (A.ofi a_Order)), (.s (A.ofv a_Reads)), (.s a_Kids)]] 0 5) (A.rsv 3 [[(.i a_Rv), (.i a_Clock), (.i a_Owner), (.b a_Lost), (.s (A.ofi a_Regs)), (.s (A.ofv a_Start)), (.s (A.ofv a_Buf)), (.s (A.ofi a_Order)), (.s (A.ofv a_Reads)), (.s a_Kids)]] 0 6) (A.rsi [[(.i a_Rv), (.i a_Clock), (.i a_Owner), (.b a_Lost), (.s (A.ofi a_Regs)), (.s (A.ofv a_Start)), (.s (A.ofv a_Buf)), (.s (A.ofi a_Order)), (.s (A.ofv a_Reads)), (.s a_Kids)]] 0 7) (A.rsv 2 [[(.i a_Rv), (.i a_Clock), (.i a_Owner), (.b a_Lost), (.s (A.ofi a_Regs)), (.s (A.ofv a_Start)), (.s (A.ofv a_Buf)), (.s (A.ofi a_Order)), (.s (A.ofv a_Reads)), (.s a_Kids)]] 0 8) (A.rsr [[(.i a_Rv), (.i a_Clock), (.i a_Owner), (.b a_Lost), (.s (A.ofi a_Regs)), (.s (A.ofv a_Start)), (.s (A.ofv a_Buf)), (.s (A.ofi a_Order)), (.s (A.ofv a_Reads)), (.s a_Kids)]] 0 9) (fun r15 r16 r17 r18 r19 r20 r21 r22 r23 r24 =>
                  c_80 r14 r15 r16 r17 r18 r19 r20 r21 r22 r23 r24 r (fun r25 =>
                    c_40 r25 r13 (fun r26 =>
                      bif (A.not r26) then
                        k false
                      else
                        c_37 __ (fun r27 =>
                          c_40 r14 r27 (fun r28 =>
                            bif (A.not r28) then
                              k false
                            else
                              c_59 (A.rint [[(.i a_Rv), (.i a_Clock), (.i a_Owner), (.b a_Lost), (.s (A.ofi a_Regs)), (.s (A.ofv a_Start)), (.s (A.ofv a_Buf)), (.s (A.ofi a_Order)), (.s (A.ofv a_Reads)), (.s a_Kids)]] 0 0) (A.rint [[(.i a_Rv), (.i a_Clock), (.i a_Owner), (.b a_Lost), (.s (A.ofi a_Regs)), (.s (A.ofv a_Start)), (.s (A.ofv a_Buf)), (.s (A.ofi a_Order)), (.s (A.ofv a_Reads)), (.s a_Kids)]] 0 1) (A.rint [[(.i a_Rv), (.i a_Clock), (.i a_Owner), (.b a_Lost), (.s (A.ofi a_Regs)), (.s (A.ofv a_Start)), (.s (A.ofv a_Buf)), (.s (A.ofi a_Order)), (.s (A.ofv a_Reads)), (.s a_Kids)]] 0 2) (A.rbool [[(.i a_Rv), (.i a_Clock), (.i a_Owner), (.b a_Lost), (.s (A.ofi a_Regs)), (.s (A.ofv a_Start)), (.s (A.ofv a_Buf)), (.s (A.ofi a_Order)), (.s (A.ofv a_Reads)), (.s a_Kids)]] 0 3) (A.rsi [[(.i a_Rv), (.i a_Clock), (.i a_Owner), (.b a_Lost), (.s (A.ofi a_Regs)), (.s (A.ofv a_Start)), (.s (A.ofv a_Buf)), (.s (A.ofi a_Order)), (.s (A.ofv a_Reads)), (.s a_Kids)]] 0 4) (A.rsv 2 [[(.i a_Rv), (.i a_Clock), (.i a_Owner), (.b a_Lost), (.s (A.ofi a_Regs)), (.s (A.ofv a_Start)), (.s (A.ofv a_Buf)), (.s (A.ofi a_Order)), (.s (A.ofv a_Reads)), (.s a_Kids)]] 0 5) (A.rsv 3 [[(.i a_Rv), (.i a_Clock), (.i a_Owner), (.b a_Lost), (.s (A.ofi a_Regs)), (.s (A.ofv a_Start)), (.s (A.ofv a_Buf)), (.s (A.ofi a_Order)), (.s (A.ofv a_Reads)), (.s a_Kids)]] 0 6) (A.rsi [[(.i a_Rv), (.i a_Clock), (.i a_Owner), (.b a_Lost), (.s (A.ofi a_Regs)), (.s (A.ofv a_Start)), (.s (A.ofv a_Buf)), (.s (A.ofi a_Order)), (.s (A.ofv a_Reads)), (.s a_Kids)]] 0 7) (A.rsv 2 [[(.i a_Rv), (.i a_Clock), (.i a_Owner), (.b a_Lost), (.s (A.ofi a_Regs)), (.s (A.ofv a_Start)), (.s (A.ofv a_Buf)), (.s (A.ofi a_Order)), (.s (A.ofv a_Reads)), (.s a_Kids)]] 0 8) (A.rsr [[(.i a_Rv), (.i a_Clock), (.i a_Owner), (.b a_Lost), (.s (A.ofi a_Regs)), (.s (A.ofv a_Start)), (.s (A.ofv a_Buf)), (.s (A.ofi a_Order)), (.s (A.ofv a_Reads)), (.s a_Kids)]] 0 9) (fun r29 r30 r31 r32 r33 r34 r35 r36 r37 r38 =>
                                c_61 r15 r16 r17 r18 r19 r20 r21 r22 r23 r24 r29 r30 r31 r32 r33 r34 r35 r36 r37 r38 (fun r39 =>
                                  bif (A.not r39) then
                                    k false
                                  else
                                    c_54 r14 1 (fun r40 r41 =>
                                      c_67 r15 r16 r17 r18 r19 r20 r21 r22 r23 r24 r40 (fun r42 =>
                                        bif (A.lt r42 0) then
                                          k false
                                        else
                                          c_40 r25 r13 (fun r43 =>
                                            bif (A.not r43) then
                                              k false
                                            else
                                              c_54 r25 1 (fun r44 r45 =>
                                                c_56 r45 1 (fun r46 =>
                                                  bif (A.lt r46 0) then
                                                    k false
                                                  else
                                                    bif (A.not (A.eq r46 r44)) then
                                                      k false
                                                    else
                                                      c_37 __ (fun r47 =>
                                                        c_59 (A.rint [[(.i a_Rv), (.i a_Clock), (.i a_Owner), (.b a_Lost), (.s (A.ofi a_Regs)), (.s (A.ofv a_Start)), (.s (A.ofv a_Buf)), (.s (A.ofi a_Order)), (.s (A.ofv a_Reads)), (.s a_Kids)]] 0 0) (A.rint [[(.i a_Rv), (.i a_Clock), (.i a_Owner), (.b a_Lost), (.s (A.ofi a_Regs)), (.s (A.ofv a_Start)), (.s (A.ofv a_Buf)), (.s (A.ofi a_Order)), (.s (A.ofv a_Reads)), (.s a_Kids)]] 0 1) (A.rint [[(.i a_Rv), (.i a_Clock), (.i a_Owner), (.b a_Lost), (.s (A.ofi a_Regs)), (.s (A.ofv a_Start)), (.s (A.ofv a_Buf)), (.s (A.ofi a_Order)), (.s (A.ofv a_Reads)), (.s a_Kids)]] 0 2) (A.rbool [[(.i a_Rv), (.i a_Clock), (.i a_Owner), (.b a_Lost), (.s (A.ofi a_Regs)), (.s (A.ofv a_Start)), (.s (A.ofv a_Buf)), (.s (A.ofi a_Order)), (.s (A.ofv a_Reads)), (.s a_Kids)]] 0 3) (A.rsi [[(.i a_Rv), (.i a_Clock), (.i a_Owner), (.b a_Lost), (.s (A.ofi a_Regs)), (.s (A.ofv a_Start)), (.s (A.ofv a_Buf)), (.s (A.ofi a_Order)), (.s (A.ofv a_Reads)), (.s a_Kids)]] 0 4) (A.rsv 2 [[(.i a_Rv), (.i a_Clock), (.i a_Owner), (.b a_Lost), (.s (A.ofi a_Regs)), (.s (A.ofv a_Start)), (.s (A.ofv a_Buf)), (.s (A.ofi a_Order)), (.s (A.ofv a_Reads)), (.s a_Kids)]] 0 5) (A.rsv 3 [[(.i a_Rv), (.i a_Clock), (.i a_Owner), (.b a_Lost), (.s (A.ofi a_Regs)), (.s (A.ofv a_Start)), (.s (A.ofv a_Buf)), (.s (A.ofi a_Order)), (.s (A.ofv a_Reads)), (.s a_Kids)]] 0 6) (A.rsi [[(.i a_Rv), (.i a_Clock), (.i a_Owner), (.b a_Lost), (.s (A.ofi a_Regs)), (.s (A.ofv a_Start)), (.s (A.ofv a_Buf)), (.s (A.ofi a_Order)), (.s (A.ofv a_Reads)), (.s a_Kids)]] 0 7) (A.rsv 2 [[(.i a_Rv), (.i a_Clock), (.i a_Owner), (.b a_Lost), (.s (A.ofi a_Regs)), (.s (A.ofv a_Start)), (.s (A.ofv a_Buf)), (.s (A.ofi a_Order)), (.s (A.ofv a_Reads)), (.s a_Kids)]] 0 8) (A.rsr [[(.i a_Rv), (.i a_Clock), (.i a_Owner), (.b a_Lost), (.s (A.ofi a_Regs)), (.s (A.ofv a_Start)), (.s (A.ofv a_Buf)), (.s (A.ofi a_Order)), (.s (A.ofv a_Reads)), (.s a_Kids)]] 0 9) (fun r48 r49 r50 r51 r52 r53 r54 r55 r56 r57 =>
                                                          c_80 r47 r48 r49 r50 r51 r52 r53 r54 r55 r56 r57 r (fun r58 =>
                                                            c_40 r58 r13 (fun r59 =>
                                                              bif (A.not r59) then
                                                                k false
                                                              else
                                                                c_56 r45 1 (fun r60 =>
                                                                  bif (A.lt r60 0) then
                                                                    k false
                                                                  else
                                                                    bif (A.not (A.eq r60 r44)) then
                                                                      k false
                                                                    else
                                                                      k true))))))))))))))))))))))
noncomputable def laws_FnExactFamAt (A : PM.Prims) : laws_FnExactFamAt_T := laws_FnExactFamAt_f A (laws_szFamily A) (laws_toIntS A) (laws_toFamily A) (laws_eqIntS A) (laws_eqFamily A) (laws_markFamily A) (laws_markIntS A) (laws_heldIntS A) (spec_FamAt A) (impl_FamAt A)
noncomputable def laws_FnExactFamAt_L (A : PM.Prims) (c_57 : laws_szFamily_T) (c_37 : laws_toIntS_T) (c_59 : laws_toFamily_T) (c_40 : laws_eqIntS_T) (c_61 : laws_eqFamily_T) (c_67 : laws_markFamily_T) (c_54 : laws_markIntS_T) (c_56 : laws_heldIntS_T) (c_79 : spec_FamAt_T) (c_80 : impl_FamAt_T) (n : Nat) : PM.Lam := fun cur σ K =>
  match cur, σ, K with
  | _, _, _ => none
noncomputable def laws_FnExactFamAt_E (A : PM.Prims) (c_57 : laws_szFamily_T) (c_37 : laws_toIntS_T) (c_59 : laws_toFamily_T) (c_40 : laws_eqIntS_T) (c_61 : laws_eqFamily_T) (c_67 : laws_markFamily_T) (c_54 : laws_markIntS_T) (c_56 : laws_heldIntS_T) (c_79 : spec_FamAt_T) (c_80 : impl_FamAt_T) : PM.Env := ⟨[(57, ⟨[], laws_szFamily_w c_57, none⟩), (37, ⟨[], laws_toIntS_w c_37, none⟩), (59, ⟨[], laws_toFamily_w c_59, none⟩), (40, ⟨[], laws_eqIntS_w c_40, none⟩), (61, ⟨[], laws_eqFamily_w c_61, none⟩), (54, ⟨[true, false], laws_markIntS_w c_54, none⟩), (56, ⟨[], laws_heldIntS_w c_56, none⟩), (79, ⟨[], spec_FamAt_w c_79, none⟩), (80, ⟨[], impl_FamAt_w c_80, none⟩)], [], [], [(0, [0, 2, 4]), (1, [0, 2, 4, 18]), (2, [6]), (3, [0, 2, 4, 7]), (4, [0, 2, 4, 7]), (5, [0, 2, 4, 23]), (6, [6]), (7, [0, 2, 4, 8]), (8, [0, 2, 4, 8, 9]), (9, [0, 2, 4, 8, 9, 10]), (10, [0, 2, 4, 8, 9, 10, 11]), (11, [0, 2, 4, 8, 9, 10, 11, 41]), (12, [6]), (13, [0, 2, 4, 8, 9, 10, 11, 46]), (14, [6]), (15, [0, 2, 4, 8, 9, 10, 11, 51]), (16, [6]), (17, [0, 2, 4, 8, 9, 10, 11, 12]), (18, [0, 2, 4, 8, 10, 11, 12]), (19, [0, 2, 4, 8, 11, 12]), (20, [0, 2, 4, 8, 11, 65]), (21, [6]), (22, [0, 2, 4, 8, 11, 13]), (23, [0, 2, 4, 8, 11, 13]), (24, [0, 2, 4, 8, 11, 13, 14]), (25, [0, 2, 4, 8, 11, 13, 14]), (26, [0, 2, 4, 8, 11, 13, 14, 73]), (27, [6]), (28, [0, 2, 4, 8, 11, 13, 76]), (29, [6]), (30, [8, 11, 13, 15]), (31, [11, 13, 86]), (32, [6]), (33, [11, 13, 14]), (34, [13, 14]), (35, [13, 14, 91]), (36, [6]), (37, [94]), (38, [6]), (39, [6])], laws_FnExactFamAt_L A c_57 c_37 c_59 c_40 c_61 c_67 c_54 c_56 c_79 c_80 A.fuel⟩
theorem laws_FnExactFamAt_ok (A : PM.Prims) (c_57 : laws_szFamily_T) (c_37 : laws_toIntS_T) (c_59 : laws_toFamily_T) (c_40 : laws_eqIntS_T) (c_61 : laws_eqFamily_T) (c_67 : laws_markFamily_T) (c_54 : laws_markIntS_T) (c_56 : laws_heldIntS_T) (c_79 : spec_FamAt_T) (c_80 : impl_FamAt_T) (__ : List Int) (a_Rv : Int) (a_Clock : Int) (a_Owner : Int) (a_Lost : Bool) (a_Regs : List Int) (a_Start : List (List Int)) (a_Buf : List (List Int)) (a_Order : List Int) (a_Reads : List (List Int)) (a_Kids : List (List PM.C)) (r : Int) (k : PM.V → PM.R) : PM.lfunB A cx [(67, laws_markFamily_w c_67)] (laws_FnExactFamAt_E A c_57 c_37 c_59 c_40 c_61 c_67 c_54 c_56 c_79 c_80) Go.Proofs.Try.f16 [.arr (.ints 3 .i64 __), .agg [.int .i64 a_Rv, .int .i64 a_Clock, .int .i64 a_Owner, .bool a_Lost, .arr (.ints 3 .i64 a_Regs), .arr (.vecs 297 2 a_Start), .arr (.vecs 299 3 a_Buf), .arr (.ints 3 .i64 a_Order), .arr (.vecs 297 2 a_Reads), .arr (.rows 295 a_Kids)], .int .i64 r] k = laws_FnExactFamAt_f A c_57 c_37 c_59 c_40 c_61 c_67 c_54 c_56 c_79 c_80 __ a_Rv a_Clock a_Owner a_Lost a_Regs a_Start a_Buf a_Order a_Reads a_Kids r (fun r0 => k (.bool r0)) := by kernel_rfl

theorem laws_FnExactFamAt_fn : PM.FnIs Try.prog 16 Try.f16 := .of Try.func16 (by kernel_rfl) (by kernel_rfl)
theorem laws_FnExactFamAt_g : PM.GOk Try.prog cx 16 ⟨[], laws_FnExactFamAt_w (laws_FnExactFamAt PM.std), none⟩ := by
  refine ⟨laws_FnExactFamAt_fn.enter, fun _ ds k r h => ?_, fun hm => absurd rfl hm, fun _ e => (by cases e)⟩
  change laws_FnExactFamAt_w (laws_FnExactFamAt PM.std) ds k = some r at h
  unfold laws_FnExactFamAt_w at h
  split at h
  · exact PM.lfunB_ok (E := laws_FnExactFamAt_E PM.std (laws_szFamily PM.std) (laws_toIntS PM.std) (laws_toFamily PM.std) (laws_eqIntS PM.std) (laws_eqFamily PM.std) (laws_markFamily PM.std) (laws_markIntS PM.std) (laws_heldIntS PM.std) (spec_FamAt PM.std) (impl_FamAt PM.std)) (M := [(67, laws_markFamily_w (laws_markFamily PM.std))]) (.cons laws_markFamily_mk .nil) cx_ok (.cons laws_szFamily_g (.cons laws_toIntS_g (.cons laws_toFamily_g (.cons laws_eqIntS_g (.cons laws_eqFamily_g (.cons laws_markIntS_g (.cons laws_heldIntS_g (.cons spec_FamAt_g (.cons impl_FamAt_g .nil))))))))) mixed .nil laws_FnExactFamAt_fn (by kernel_rfl)
      ((laws_FnExactFamAt_ok PM.std (laws_szFamily PM.std) (laws_toIntS PM.std) (laws_toFamily PM.std) (laws_eqIntS PM.std) (laws_eqFamily PM.std) (laws_markFamily PM.std) (laws_markIntS PM.std) (laws_heldIntS PM.std) (spec_FamAt PM.std) (impl_FamAt PM.std) _ _ _ _ _ _ _ _ _ _ _ _ k).trans h)
  · cases h

end X
