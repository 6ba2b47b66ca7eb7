/- Models of the functions, or plain laws about them; each theorem states its own conditions. -/
import Derived.Test.YtlcgddghildedaaMdlA
import Derived.Test.YtlcgddghildedaaL3
import Derived.Test.YtlcgddghildedaaProg
import Derived.KernelRfl
set_option linter.unusedVariables false
set_option linter.unusedSimpArgs false

open Go.Proofs
namespace X
open PM
set_option maxRecDepth 100000
set_option maxHeartbeats 4000000
abbrev laws_toKidMarkS_T := (List (List PM.C)) → ((List (List PM.C)) → PM.R) → PM.R
noncomputable def laws_toKidMarkS_w (c : laws_toKidMarkS_T) (ds : List PM.V) (k : PM.V → PM.R) : PM.R :=
  match ds with
  | [.arr (.rows 405 a)] => c a (fun r0 => k (.arr (.rows 368 r0)))
  | _ => none
noncomputable def laws_toKidMarkS_l0 (A : PM.Prims) (c_313 : laws_toKidMark_T) : Nat → (List (List C)) → (Int) → (List (List C)) → ((List (List C)) → PM.R) → PM.R
  | 0, _, _, _, _ => none
  | n + 1, a1, i2, o03, kx0_0 =>
    bif (A.lt i2 (A.rlen a1)) then
      bif (A.inb i2 (A.rlen a1)) then
        c_313 (A.rint a1 i2 0) (A.rint a1 i2 1) (A.rsi a1 i2 2) (fun r4 r5 r6 =>
          bif (A.inb i2 (A.rlen o03)) then
            laws_toKidMarkS_l0 A c_313 n a1 (A.add .i64 i2 1) (A.rput o03 i2 [(.i r4), (.i r5), (.s (A.ofi r6))]) kx0_0
          else
            none)
      else
        none
    else
      kx0_0 o03
noncomputable def laws_toKidMarkS_f (A : PM.Prims) (c_313 : laws_toKidMark_T) (a : List (List PM.C)) (k : (List (List PM.C)) → PM.R) : PM.R :=
  bif (A.mkOk (A.rlen a)) then
    bif (A.le (A.rlen a) (A.rlen a)) then
      bif (A.mkOk (A.rlen a)) then
        laws_toKidMarkS_l0 A c_313 A.fuel a 0 (A.rzero [(.i 0), (.i 0), (.s (A.ofi []))] (A.rlen a)) (fun o078 =>
          k o078)
      else
        none
    else
      none
  else
    none
noncomputable def laws_toKidMarkS (A : PM.Prims) : laws_toKidMarkS_T := laws_toKidMarkS_f A (laws_toKidMark A)
noncomputable def laws_toKidMarkS_L (A : PM.Prims) (c_313 : laws_toKidMark_T) (n : Nat) : PM.Lam := fun cur σ K =>
  match cur, σ, K with
  | 0, ⟨[(0, .arr (.rows 405 a1)), (3, .sref 0), (4, .int .i64 i2)], [(0, .arr true (.rows 368 o03))]⟩, K => laws_toKidMarkS_l0 A c_313 n a1 i2 o03 (fun o07 => K (.exit 0) ⟨[(3, .sref 0)], [(0, .arr true (.rows 368 o07))]⟩)
  | _, _, _ => none
noncomputable def laws_toKidMarkS_E (A : PM.Prims) (c_313 : laws_toKidMark_T) : PM.Env := ⟨[(313, ⟨[], laws_toKidMark_w c_313, none⟩)], [], [(0, [0, 3, 4], [2, 3])], [(0, [0]), (1, [0, 3]), (2, [0, 3, 4]), (3, [0, 3, 4, 11]), (4, [0, 3, 4]), (5, [0, 3, 4]), (6, [2])], laws_toKidMarkS_L A c_313 A.fuel⟩
theorem laws_toKidMarkS_l0_ok (A : PM.Prims) (c_313 : laws_toKidMark_T) (n : Nat) (a1 : List (List C)) (i2 : Int) (o03 : List (List C)) (K : Go.Exit → PM.S → PM.R) : laws_toKidMarkS_L A c_313 (n + 1) 0 ⟨[(0, .arr (.rows 405 a1)), (3, .sref 0), (4, .int .i64 i2)], [(0, .arr true (.rows 368 o03))]⟩ K = PM.roundF A cx (PM.runD A cx (laws_toKidMarkS_E A c_313).inl (laws_toKidMarkS_E A c_313).Γ 3) (laws_toKidMarkS_E A c_313) (laws_toKidMarkS_L A c_313 n) 0 Go.Proofs.Try.f277 ⟨[(0, .arr (.rows 405 a1)), (3, .sref 0), (4, .int .i64 i2)], [(0, .arr true (.rows 368 o03))]⟩ K := by kernel_rfl
theorem laws_toKidMarkS_ok (A : PM.Prims) (c_313 : laws_toKidMark_T) (a : List (List PM.C)) (k : PM.V → PM.R) : PM.pfun A cx [] (laws_toKidMarkS_E A c_313) Go.Proofs.Try.f277 [.arr (.rows 405 a)] k = laws_toKidMarkS_f A c_313 a (fun r0 => k (.arr (.rows 368 r0))) := by kernel_rfl

theorem laws_toKidMarkS_fn : PM.FnIs Try.prog 277 Try.f277 := .of Try.func277 (by kernel_rfl) (by kernel_rfl)
theorem laws_toKidMarkS_g : PM.GOk Try.prog cx 277 ⟨[], laws_toKidMarkS_w (laws_toKidMarkS PM.std), none⟩ := by
  refine ⟨laws_toKidMarkS_fn.enter, fun _ ds k r h => ?_, fun hm => absurd rfl hm, fun _ e => (by cases e)⟩
  change laws_toKidMarkS_w (laws_toKidMarkS PM.std) ds k = some r at h
  unfold laws_toKidMarkS_w at h
  split at h
  · exact PM.pfun_ok (E := laws_toKidMarkS_E PM.std (laws_toKidMark PM.std)) (L := fun n => laws_toKidMarkS_L PM.std (laws_toKidMark PM.std) n) (N := PM.std.fuel) cx_ok (.cons laws_toKidMark_g .nil) mixed .nil laws_toKidMarkS_fn (by kernel_rfl) ⟨rfl, fun cur σ K => by
      dsimp only [laws_toKidMarkS_L]
      split <;> rfl, fun n cur σ K r h => by
      dsimp only [laws_toKidMarkS_L] at h
      split at h
      · exact (laws_toKidMarkS_l0_ok PM.std (laws_toKidMark PM.std) n _ _ _ K).symm.trans h
      · cases h⟩
      ((laws_toKidMarkS_ok PM.std (laws_toKidMark PM.std) _ k).trans h)
  · cases h

abbrev laws_toKidRun_T := (Int) → (Int) → (Int) → (Int) → (Int) → (Int) → (List Int) → (List (List Int)) → (List (List Int)) → (List (List PM.C)) → (Bool) → (Int) → (Int) → (Int) → (Int) → ((Int) → (Int) → (Int) → (Int) → (Int) → (Int) → (List Int) → (List (List Int)) → (List (List Int)) → (List (List PM.C)) → (Bool) → (Int) → (Int) → (Int) → (Int) → PM.R) → PM.R
noncomputable def laws_toKidRun_w (c : laws_toKidRun_T) (ds : List PM.V) (k : PM.V → PM.R) : PM.R :=
  match ds with
  | [.agg [.int .i64 a_Phase, .int .i64 a_Pc, .int .i64 a_Since, .int .i64 a_Tries, .int .i64 a_At, .int .i64 a_Out, .arr (.ints 3 .i64 a_Regs), .arr (.vecs 299 3 a_Seen), .arr (.vecs 297 2 a_Writes), .arr (.rows 405 a_Marks), .bool a_Busy, .int .i64 a_Probe_Cell, .int .i64 a_Probe_Phase, .int .i64 a_Probe_Ver, .int .i64 a_Probe_Val]] => c a_Phase a_Pc a_Since a_Tries a_At a_Out a_Regs a_Seen a_Writes a_Marks a_Busy a_Probe_Cell a_Probe_Phase a_Probe_Ver a_Probe_Val (fun r0_Phase r0_Pc r0_Since r0_Tries r0_At r0_Out r0_Regs r0_Seen r0_Writes r0_Marks r0_Busy r0_Probe_Cell r0_Probe_Phase r0_Probe_Ver r0_Probe_Val => k (.agg [.int .i64 r0_Phase, .int .i64 r0_Pc, .int .i64 r0_Since, .int .i64 r0_Tries, .int .i64 r0_At, .int .i64 r0_Out, .arr (.ints 3 .i64 r0_Regs), .arr (.vecs 225 3 r0_Seen), .arr (.vecs 161 2 r0_Writes), .arr (.rows 368 r0_Marks), .bool r0_Busy, .int .i64 r0_Probe_Cell, .int .i64 r0_Probe_Phase, .int .i64 r0_Probe_Ver, .int .i64 r0_Probe_Val]))
  | _ => none
noncomputable def laws_toKidRun_f (A : PM.Prims) (c_37 : laws_toIntS_T) (c_150 : laws_toRowS_T) (c_269 : laws_toProbe_T) (c_151 : laws_toEntryS_T) (c_277 : laws_toKidMarkS_T) (a_Phase : Int) (a_Pc : Int) (a_Since : Int) (a_Tries : Int) (a_At : Int) (a_Out : Int) (a_Regs : List Int) (a_Seen : List (List Int)) (a_Writes : List (List Int)) (a_Marks : List (List PM.C)) (a_Busy : Bool) (a_Probe_Cell : Int) (a_Probe_Phase : Int) (a_Probe_Ver : Int) (a_Probe_Val : Int) (k : (Int) → (Int) → (Int) → (Int) → (Int) → (Int) → (List Int) → (List (List Int)) → (List (List Int)) → (List (List PM.C)) → (Bool) → (Int) → (Int) → (Int) → (Int) → PM.R) : PM.R :=
  c_37 a_Regs (fun r1 =>
    c_151 a_Seen (fun r2 =>
      c_150 a_Writes (fun r3 =>
        c_277 a_Marks (fun r4 =>
          c_269 a_Probe_Cell a_Probe_Phase a_Probe_Ver a_Probe_Val (fun r5 r6 r7 r8 =>
            k a_Phase a_Pc a_Since a_Tries a_At a_Out r1 r2 r3 r4 a_Busy r5 r6 r7 r8)))))
noncomputable def laws_toKidRun (A : PM.Prims) : laws_toKidRun_T := laws_toKidRun_f A (laws_toIntS A) (laws_toRowS A) (laws_toProbe A) (laws_toEntryS A) (laws_toKidMarkS A)
noncomputable def laws_toKidRun_L (A : PM.Prims) (c_37 : laws_toIntS_T) (c_150 : laws_toRowS_T) (c_269 : laws_toProbe_T) (c_151 : laws_toEntryS_T) (c_277 : laws_toKidMarkS_T) (n : Nat) : PM.Lam := fun cur σ K =>
  match cur, σ, K with
  | _, _, _ => none
noncomputable def laws_toKidRun_E (A : PM.Prims) (c_37 : laws_toIntS_T) (c_150 : laws_toRowS_T) (c_269 : laws_toProbe_T) (c_151 : laws_toEntryS_T) (c_277 : laws_toKidMarkS_T) : PM.Env := ⟨[(37, ⟨[], laws_toIntS_w c_37, none⟩), (150, ⟨[], laws_toRowS_w c_150, none⟩), (269, ⟨[], laws_toProbe_w c_269, none⟩), (151, ⟨[], laws_toEntryS_w c_151, none⟩), (277, ⟨[], laws_toKidMarkS_w c_277, none⟩)], [], [], [(0, [1, 2]), (1, [1, 2, 3]), (2, [1, 2, 3]), (3, [1, 2, 3]), (4, [1, 2, 3]), (5, [1, 2, 3]), (6, [1, 2, 3]), (7, [1, 2, 3]), (8, [1, 2, 3]), (9, [1, 2, 3]), (10, [1, 2, 3]), (11, [1, 2, 3]), (12, [1, 2, 3]), (13, [2, 3]), (14, [2])], laws_toKidRun_L A c_37 c_150 c_269 c_151 c_277 A.fuel⟩
theorem laws_toKidRun_ok (A : PM.Prims) (c_37 : laws_toIntS_T) (c_150 : laws_toRowS_T) (c_269 : laws_toProbe_T) (c_151 : laws_toEntryS_T) (c_277 : laws_toKidMarkS_T) (a_Phase : Int) (a_Pc : Int) (a_Since : Int) (a_Tries : Int) (a_At : Int) (a_Out : Int) (a_Regs : List Int) (a_Seen : List (List Int)) (a_Writes : List (List Int)) (a_Marks : List (List PM.C)) (a_Busy : Bool) (a_Probe_Cell : Int) (a_Probe_Phase : Int) (a_Probe_Ver : Int) (a_Probe_Val : Int) (k : PM.V → PM.R) : PM.pfun A cx [] (laws_toKidRun_E A c_37 c_150 c_269 c_151 c_277) Go.Proofs.Try.f216 [.agg [.int .i64 a_Phase, .int .i64 a_Pc, .int .i64 a_Since, .int .i64 a_Tries, .int .i64 a_At, .int .i64 a_Out, .arr (.ints 3 .i64 a_Regs), .arr (.vecs 299 3 a_Seen), .arr (.vecs 297 2 a_Writes), .arr (.rows 405 a_Marks), .bool a_Busy, .int .i64 a_Probe_Cell, .int .i64 a_Probe_Phase, .int .i64 a_Probe_Ver, .int .i64 a_Probe_Val]] k = laws_toKidRun_f A c_37 c_150 c_269 c_151 c_277 a_Phase a_Pc a_Since a_Tries a_At a_Out a_Regs a_Seen a_Writes a_Marks a_Busy a_Probe_Cell a_Probe_Phase a_Probe_Ver a_Probe_Val (fun r0_Phase r0_Pc r0_Since r0_Tries r0_At r0_Out r0_Regs r0_Seen r0_Writes r0_Marks r0_Busy r0_Probe_Cell r0_Probe_Phase r0_Probe_Ver r0_Probe_Val => k (.agg [.int .i64 r0_Phase, .int .i64 r0_Pc, .int .i64 r0_Since, .int .i64 r0_Tries, .int .i64 r0_At, .int .i64 r0_Out, .arr (.ints 3 .i64 r0_Regs), .arr (.vecs 225 3 r0_Seen), .arr (.vecs 161 2 r0_Writes), .arr (.rows 368 r0_Marks), .bool r0_Busy, .int .i64 r0_Probe_Cell, .int .i64 r0_Probe_Phase, .int .i64 r0_Probe_Ver, .int .i64 r0_Probe_Val])) := by kernel_rfl

theorem laws_toKidRun_fn : PM.FnIs Try.prog 216 Try.f216 := .of Try.func216 (by kernel_rfl) (by kernel_rfl)
theorem laws_toKidRun_g : PM.GOk Try.prog cx 216 ⟨[], laws_toKidRun_w (laws_toKidRun PM.std), none⟩ := by
  refine ⟨laws_toKidRun_fn.enter, fun _ ds k r h => ?_, fun hm => absurd rfl hm, fun _ e => (by cases e)⟩
  change laws_toKidRun_w (laws_toKidRun PM.std) ds k = some r at h
  unfold laws_toKidRun_w at h
  split at h
  · exact PM.pfun_ok (E := laws_toKidRun_E PM.std (laws_toIntS PM.std) (laws_toRowS PM.std) (laws_toProbe PM.std) (laws_toEntryS PM.std) (laws_toKidMarkS PM.std)) (L := fun n => laws_toKidRun_L PM.std (laws_toIntS PM.std) (laws_toRowS PM.std) (laws_toProbe PM.std) (laws_toEntryS PM.std) (laws_toKidMarkS PM.std) n) (N := PM.std.fuel) cx_ok (.cons laws_toIntS_g (.cons laws_toRowS_g (.cons laws_toProbe_g (.cons laws_toEntryS_g (.cons laws_toKidMarkS_g .nil))))) mixed .nil laws_toKidRun_fn (by kernel_rfl) ⟨rfl, fun _ _ _ => rfl, fun n cur σ K r h => by cases h⟩
      ((laws_toKidRun_ok PM.std (laws_toIntS PM.std) (laws_toRowS PM.std) (laws_toProbe PM.std) (laws_toEntryS PM.std) (laws_toKidMarkS PM.std) _ _ _ _ _ _ _ _ _ _ _ _ _ _ _ k).trans h)
  · cases h

abbrev laws_toKidRunS_T := (List (List PM.C)) → ((List (List PM.C)) → PM.R) → PM.R
noncomputable def laws_toKidRunS_w (c : laws_toKidRunS_T) (ds : List PM.V) (k : PM.V → PM.R) : PM.R :=
  match ds with
  | [.arr (.rows 295 a)] => c a (fun r0 => k (.arr (.rows 214 r0)))
  | _ => none
noncomputable def laws_toKidRunS_l0 (A : PM.Prims) (c_216 : laws_toKidRun_T) : Nat → (List (List C)) → (Int) → (List (List C)) → ((List (List C)) → PM.R) → PM.R
  | 0, _, _, _, _ => none
  | n + 1, a1, i2, o03, kx0_0 =>
    bif (A.lt i2 (A.rlen a1)) then
      bif (A.inb i2 (A.rlen a1)) then
        c_216 (A.rint a1 i2 0) (A.rint a1 i2 1) (A.rint a1 i2 2) (A.rint a1 i2 3) (A.rint a1 i2 4) (A.rint a1 i2 5) (A.rsi a1 i2 6) (A.rsv 3 a1 i2 7) (A.rsv 2 a1 i2 8) (A.rsr a1 i2 9) (A.rbool a1 i2 10) (A.rint a1 i2 11) (A.rint a1 i2 12) (A.rint a1 i2 13) (A.rint a1 i2 14) (fun r4 r5 r6 r7 r8 r9 r10 r11 r12 r13 r14 r15 r16 r17 r18 =>
          bif (A.inb i2 (A.rlen o03)) then
            laws_toKidRunS_l0 A c_216 n a1 (A.add .i64 i2 1) (A.rput o03 i2 [(.i r4), (.i r5), (.i r6), (.i r7), (.i r8), (.i r9), (.s (A.ofi r10)), (.s (A.ofv r11)), (.s (A.ofv r12)), (.s r13), (.b r14), (.i r15), (.i r16), (.i r17), (.i r18)]) kx0_0
          else
            none)
      else
        none
    else
      kx0_0 o03
noncomputable def laws_toKidRunS_f (A : PM.Prims) (c_216 : laws_toKidRun_T) (a : List (List PM.C)) (k : (List (List PM.C)) → PM.R) : PM.R :=
  bif (A.mkOk (A.rlen a)) then
    bif (A.le (A.rlen a) (A.rlen a)) then
      bif (A.mkOk (A.rlen a)) then
        laws_toKidRunS_l0 A c_216 A.fuel a 0 (A.rzero [(.i 0), (.i 0), (.i 0), (.i 0), (.i 0), (.i 0), (.s (A.ofi [])), (.s (A.ofv [])), (.s (A.ofv [])), (.s []), (.b false), (.i 0), (.i 0), (.i 0), (.i 0)] (A.rlen a)) (fun o01920 =>
          k o01920)
      else
        none
    else
      none
  else
    none
noncomputable def laws_toKidRunS (A : PM.Prims) : laws_toKidRunS_T := laws_toKidRunS_f A (laws_toKidRun A)
noncomputable def laws_toKidRunS_L (A : PM.Prims) (c_216 : laws_toKidRun_T) (n : Nat) : PM.Lam := fun cur σ K =>
  match cur, σ, K with
  | 0, ⟨[(0, .arr (.rows 295 a1)), (3, .sref 0), (4, .int .i64 i2)], [(0, .arr true (.rows 214 o03))]⟩, K => laws_toKidRunS_l0 A c_216 n a1 i2 o03 (fun o019 => K (.exit 0) ⟨[(3, .sref 0)], [(0, .arr true (.rows 214 o019))]⟩)
  | _, _, _ => none
noncomputable def laws_toKidRunS_E (A : PM.Prims) (c_216 : laws_toKidRun_T) : PM.Env := ⟨[(216, ⟨[], laws_toKidRun_w c_216, none⟩)], [], [(0, [0, 3, 4], [2, 3])], [(0, [0]), (1, [0, 3]), (2, [0, 3, 4]), (3, [0, 3, 4, 11]), (4, [0, 3, 4]), (5, [0, 3, 4]), (6, [2])], laws_toKidRunS_L A c_216 A.fuel⟩
theorem laws_toKidRunS_l0_ok (A : PM.Prims) (c_216 : laws_toKidRun_T) (n : Nat) (a1 : List (List C)) (i2 : Int) (o03 : List (List C)) (K : Go.Exit → PM.S → PM.R) : laws_toKidRunS_L A c_216 (n + 1) 0 ⟨[(0, .arr (.rows 295 a1)), (3, .sref 0), (4, .int .i64 i2)], [(0, .arr true (.rows 214 o03))]⟩ K = PM.roundF A cx (PM.runD A cx (laws_toKidRunS_E A c_216).inl (laws_toKidRunS_E A c_216).Γ 3) (laws_toKidRunS_E A c_216) (laws_toKidRunS_L A c_216 n) 0 Go.Proofs.Try.f152 ⟨[(0, .arr (.rows 295 a1)), (3, .sref 0), (4, .int .i64 i2)], [(0, .arr true (.rows 214 o03))]⟩ K := by kernel_rfl
theorem laws_toKidRunS_ok (A : PM.Prims) (c_216 : laws_toKidRun_T) (a : List (List PM.C)) (k : PM.V → PM.R) : PM.pfun A cx [] (laws_toKidRunS_E A c_216) Go.Proofs.Try.f152 [.arr (.rows 295 a)] k = laws_toKidRunS_f A c_216 a (fun r0 => k (.arr (.rows 214 r0))) := by kernel_rfl

theorem laws_toKidRunS_fn : PM.FnIs Try.prog 152 Try.f152 := .of Try.func152 (by kernel_rfl) (by kernel_rfl)
theorem laws_toKidRunS_g : PM.GOk Try.prog cx 152 ⟨[], laws_toKidRunS_w (laws_toKidRunS PM.std), none⟩ := by
  refine ⟨laws_toKidRunS_fn.enter, fun _ ds k r h => ?_, fun hm => absurd rfl hm, fun _ e => (by cases e)⟩
  change laws_toKidRunS_w (laws_toKidRunS PM.std) ds k = some r at h
  unfold laws_toKidRunS_w at h
  split at h
  · exact PM.pfun_ok (E := laws_toKidRunS_E PM.std (laws_toKidRun PM.std)) (L := fun n => laws_toKidRunS_L PM.std (laws_toKidRun PM.std) n) (N := PM.std.fuel) cx_ok (.cons laws_toKidRun_g .nil) mixed .nil laws_toKidRunS_fn (by kernel_rfl) ⟨rfl, fun cur σ K => by
      dsimp only [laws_toKidRunS_L]
      split <;> rfl, fun n cur σ K r h => by
      dsimp only [laws_toKidRunS_L] at h
      split at h
      · exact (laws_toKidRunS_l0_ok PM.std (laws_toKidRun PM.std) n _ _ _ K).symm.trans h
      · cases h⟩
      ((laws_toKidRunS_ok PM.std (laws_toKidRun PM.std) _ k).trans h)
  · cases h

abbrev laws_toFamily_T := (Int) → (Int) → (Int) → (Bool) → (List Int) → (List (List Int)) → (List (List Int)) → (List Int) → (List (List Int)) → (List (List PM.C)) → ((Int) → (Int) → (Int) → (Bool) → (List Int) → (List (List Int)) → (List (List Int)) → (List Int) → (List (List Int)) → (List (List PM.C)) → PM.R) → PM.R
noncomputable def laws_toFamily_w (c : laws_toFamily_T) (ds : List PM.V) (k : PM.V → PM.R) : PM.R :=
  match ds with
  | [.agg [.int .i64 a_Rv, .int .i64 a_Clock, .int .i64 a_Owner, .bool a_Lost, .arr (.ints 3 .i64 a_Regs), .arr (.vecs 297 2 a_Start), .arr (.vecs 299 3 a_Buf), .arr (.ints 3 .i64 a_Order), .arr (.vecs 297 2 a_Reads), .arr (.rows 295 a_Kids)]] => c a_Rv a_Clock a_Owner a_Lost a_Regs a_Start a_Buf a_Order a_Reads a_Kids (fun r0_Rv r0_Clock r0_Owner r0_Lost r0_Regs r0_Start r0_Buf r0_Order r0_Reads r0_Kids => k (.agg [.int .i64 r0_Rv, .int .i64 r0_Clock, .int .i64 r0_Owner, .bool r0_Lost, .arr (.ints 3 .i64 r0_Regs), .arr (.vecs 161 2 r0_Start), .arr (.vecs 225 3 r0_Buf), .arr (.ints 3 .i64 r0_Order), .arr (.vecs 161 2 r0_Reads), .arr (.rows 214 r0_Kids)]))
  | _ => none
noncomputable def laws_toFamily_f (A : PM.Prims) (c_37 : laws_toIntS_T) (c_150 : laws_toRowS_T) (c_151 : laws_toEntryS_T) (c_152 : laws_toKidRunS_T) (a_Rv : Int) (a_Clock : Int) (a_Owner : Int) (a_Lost : Bool) (a_Regs : List Int) (a_Start : List (List Int)) (a_Buf : List (List Int)) (a_Order : List Int) (a_Reads : List (List Int)) (a_Kids : List (List PM.C)) (k : (Int) → (Int) → (Int) → (Bool) → (List Int) → (List (List Int)) → (List (List Int)) → (List Int) → (List (List Int)) → (List (List PM.C)) → PM.R) : PM.R :=
  c_37 a_Regs (fun r1 =>
    c_150 a_Start (fun r2 =>
      c_151 a_Buf (fun r3 =>
        c_37 a_Order (fun r4 =>
          c_150 a_Reads (fun r5 =>
            c_152 a_Kids (fun r6 =>
              k a_Rv a_Clock a_Owner a_Lost r1 r2 r3 r4 r5 r6))))))
noncomputable def laws_toFamily (A : PM.Prims) : laws_toFamily_T := laws_toFamily_f A (laws_toIntS A) (laws_toRowS A) (laws_toEntryS A) (laws_toKidRunS A)
noncomputable def laws_toFamily_L (A : PM.Prims) (c_37 : laws_toIntS_T) (c_150 : laws_toRowS_T) (c_151 : laws_toEntryS_T) (c_152 : laws_toKidRunS_T) (n : Nat) : PM.Lam := fun cur σ K =>
  match cur, σ, K with
  | _, _, _ => none
noncomputable def laws_toFamily_E (A : PM.Prims) (c_37 : laws_toIntS_T) (c_150 : laws_toRowS_T) (c_151 : laws_toEntryS_T) (c_152 : laws_toKidRunS_T) : PM.Env := ⟨[(37, ⟨[], laws_toIntS_w c_37, none⟩), (150, ⟨[], laws_toRowS_w c_150, none⟩), (151, ⟨[], laws_toEntryS_w c_151, none⟩), (152, ⟨[], laws_toKidRunS_w c_152, none⟩)], [], [], [(0, [1, 2]), (1, [1, 2, 3]), (2, [1, 2, 3]), (3, [1, 2, 3]), (4, [1, 2, 3]), (5, [1, 2, 3]), (6, [1, 2, 3]), (7, [1, 2, 3]), (8, [1, 2, 3]), (9, [1, 2, 3]), (10, [1, 2, 3]), (11, [2, 3]), (12, [2])], laws_toFamily_L A c_37 c_150 c_151 c_152 A.fuel⟩
theorem laws_toFamily_ok (A : PM.Prims) (c_37 : laws_toIntS_T) (c_150 : laws_toRowS_T) (c_151 : laws_toEntryS_T) (c_152 : laws_toKidRunS_T) (a_Rv : Int) (a_Clock : Int) (a_Owner : Int) (a_Lost : Bool) (a_Regs : List Int) (a_Start : List (List Int)) (a_Buf : List (List Int)) (a_Order : List Int) (a_Reads : List (List Int)) (a_Kids : List (List PM.C)) (k : PM.V → PM.R) : PM.pfun A cx [] (laws_toFamily_E A c_37 c_150 c_151 c_152) Go.Proofs.Try.f59 [.agg [.int .i64 a_Rv, .int .i64 a_Clock, .int .i64 a_Owner, .bool a_Lost, .arr (.ints 3 .i64 a_Regs), .arr (.vecs 297 2 a_Start), .arr (.vecs 299 3 a_Buf), .arr (.ints 3 .i64 a_Order), .arr (.vecs 297 2 a_Reads), .arr (.rows 295 a_Kids)]] k = laws_toFamily_f A c_37 c_150 c_151 c_152 a_Rv a_Clock a_Owner a_Lost a_Regs a_Start a_Buf a_Order a_Reads a_Kids (fun r0_Rv r0_Clock r0_Owner r0_Lost r0_Regs r0_Start r0_Buf r0_Order r0_Reads r0_Kids => k (.agg [.int .i64 r0_Rv, .int .i64 r0_Clock, .int .i64 r0_Owner, .bool r0_Lost, .arr (.ints 3 .i64 r0_Regs), .arr (.vecs 161 2 r0_Start), .arr (.vecs 225 3 r0_Buf), .arr (.ints 3 .i64 r0_Order), .arr (.vecs 161 2 r0_Reads), .arr (.rows 214 r0_Kids)])) := by kernel_rfl

theorem laws_toFamily_fn : PM.FnIs Try.prog 59 Try.f59 := .of Try.func59 (by kernel_rfl) (by kernel_rfl)
theorem laws_toFamily_g : PM.GOk Try.prog cx 59 ⟨[], laws_toFamily_w (laws_toFamily PM.std), none⟩ := by
  refine ⟨laws_toFamily_fn.enter, fun _ ds k r h => ?_, fun hm => absurd rfl hm, fun _ e => (by cases e)⟩
  change laws_toFamily_w (laws_toFamily PM.std) ds k = some r at h
  unfold laws_toFamily_w at h
  split at h
  · exact PM.pfun_ok (E := laws_toFamily_E PM.std (laws_toIntS PM.std) (laws_toRowS PM.std) (laws_toEntryS PM.std) (laws_toKidRunS PM.std)) (L := fun n => laws_toFamily_L PM.std (laws_toIntS PM.std) (laws_toRowS PM.std) (laws_toEntryS PM.std) (laws_toKidRunS PM.std) n) (N := PM.std.fuel) cx_ok (.cons laws_toIntS_g (.cons laws_toRowS_g (.cons laws_toEntryS_g (.cons laws_toKidRunS_g .nil)))) mixed .nil laws_toFamily_fn (by kernel_rfl) ⟨rfl, fun _ _ _ => rfl, fun n cur σ K r h => by cases h⟩
      ((laws_toFamily_ok PM.std (laws_toIntS PM.std) (laws_toRowS PM.std) (laws_toEntryS PM.std) (laws_toKidRunS PM.std) _ _ _ _ _ _ _ _ _ _ k).trans h)
  · cases h

abbrev laws_toRoot_T := (Int) → (Int) → (Int) → (Int) → (Int) → (Int) → (Int) → (Int) → (Int) → (Int) → (Int) → (Bool) → (List Int) → (List (List Int)) → (List (List Int)) → (List (List PM.C)) → (List (List Int)) → (List Int) → (Bool) → (Int) → (Int) → (Int) → (Int) → (Int) → (Int) → (Int) → (Int) → (Int) → (List (List Int)) → (List Int) → (Int) → (Int) → (Int) → (Bool) → (List Int) → (List (List Int)) → (List (List Int)) → (List Int) → (List (List Int)) → (List (List PM.C)) → ((Int) → (Int) → (Int) → (Int) → (Int) → (Int) → (Int) → (Int) → (Int) → (Int) → (Int) → (Bool) → (List Int) → (List (List Int)) → (List (List Int)) → (List (List PM.C)) → (List (List Int)) → (List Int) → (Bool) → (Int) → (Int) → (Int) → (Int) → (Int) → (Int) → (Int) → (Int) → (Int) → (List (List Int)) → (List Int) → (Int) → (Int) → (Int) → (Bool) → (List Int) → (List (List Int)) → (List (List Int)) → (List Int) → (List (List Int)) → (List (List PM.C)) → PM.R) → PM.R
noncomputable def laws_toRoot_w (c : laws_toRoot_T) (ds : List PM.V) (k : PM.V → PM.R) : PM.R :=
  match ds with
  | [.agg (.int .i64 ___Phase :: .int .i64 ___Tries :: .int .i64 ___Spare :: .int .i64 ___Pc :: .int .i64 ___Rv :: .int .i64 ___NewRv :: .int .i64 ___At :: .int .i64 ___Fate :: .int .i64 ___Stamp :: .int .i64 ___Began :: .int .i64 ___Ended :: .bool ___Doomed :: .arr (.ints 3 .i64 ___Regs) :: .arr (.vecs 297 2 ___Reads) :: .arr (.vecs 297 2 ___Writes) :: .arr (.rows 395 ___Marks) :: .arr (.vecs 401 3 ___Undos) :: .arr (.ints 3 .i64 ___Order) :: .bool ___Busy :: .int .i64 ___Probe_Cell :: .int .i64 ___Probe_Phase :: .int .i64 ___Probe_Ver :: .int .i64 ___Probe_Val :: .int .i64 ___Commit_Who :: .int .i64 ___Commit_Rv :: .int .i64 ___Commit_Phase :: .int .i64 ___Commit_At :: .int .i64 ___Commit_Wv :: .arr (.vecs 297 2 ___Commit_Puts) :: .arr (.ints 3 .i64 ___Commit_Reads) :: .int .i64 ___Fam_Rv :: .int .i64 ___Fam_Clock :: .int .i64 ___Fam_Owner :: .bool ___Fam_Lost :: .arr (.ints 3 .i64 ___Fam_Regs) :: .arr (.vecs 297 2 ___Fam_Start) :: .arr (.vecs 299 3 ___Fam_Buf) :: .arr (.ints 3 .i64 ___Fam_Order) :: .arr (.vecs 297 2 ___Fam_Reads) :: .arr (.rows 295 ___Fam_Kids) :: [])] => c ___Phase ___Tries ___Spare ___Pc ___Rv ___NewRv ___At ___Fate ___Stamp ___Began ___Ended ___Doomed ___Regs ___Reads ___Writes ___Marks ___Undos ___Order ___Busy ___Probe_Cell ___Probe_Phase ___Probe_Ver ___Probe_Val ___Commit_Who ___Commit_Rv ___Commit_Phase ___Commit_At ___Commit_Wv ___Commit_Puts ___Commit_Reads ___Fam_Rv ___Fam_Clock ___Fam_Owner ___Fam_Lost ___Fam_Regs ___Fam_Start ___Fam_Buf ___Fam_Order ___Fam_Reads ___Fam_Kids (fun r0_Phase r0_Tries r0_Spare r0_Pc r0_Rv r0_NewRv r0_At r0_Fate r0_Stamp r0_Began r0_Ended r0_Doomed r0_Regs r0_Reads r0_Writes r0_Marks r0_Undos r0_Order r0_Busy r0_Probe_Cell r0_Probe_Phase r0_Probe_Ver r0_Probe_Val r0_Commit_Who r0_Commit_Rv r0_Commit_Phase r0_Commit_At r0_Commit_Wv r0_Commit_Puts r0_Commit_Reads r0_Fam_Rv r0_Fam_Clock r0_Fam_Owner r0_Fam_Lost r0_Fam_Regs r0_Fam_Start r0_Fam_Buf r0_Fam_Order r0_Fam_Reads r0_Fam_Kids => k (.agg (.int .i64 r0_Phase :: .int .i64 r0_Tries :: .int .i64 r0_Spare :: .int .i64 r0_Pc :: .int .i64 r0_Rv :: .int .i64 r0_NewRv :: .int .i64 r0_At :: .int .i64 r0_Fate :: .int .i64 r0_Stamp :: .int .i64 r0_Began :: .int .i64 r0_Ended :: .bool r0_Doomed :: .arr (.ints 3 .i64 r0_Regs) :: .arr (.vecs 161 2 r0_Reads) :: .arr (.vecs 161 2 r0_Writes) :: .arr (.rows 396 r0_Marks) :: .arr (.vecs 399 3 r0_Undos) :: .arr (.ints 3 .i64 r0_Order) :: .bool r0_Busy :: .int .i64 r0_Probe_Cell :: .int .i64 r0_Probe_Phase :: .int .i64 r0_Probe_Ver :: .int .i64 r0_Probe_Val :: .int .i64 r0_Commit_Who :: .int .i64 r0_Commit_Rv :: .int .i64 r0_Commit_Phase :: .int .i64 r0_Commit_At :: .int .i64 r0_Commit_Wv :: .arr (.vecs 161 2 r0_Commit_Puts) :: .arr (.ints 3 .i64 r0_Commit_Reads) :: .int .i64 r0_Fam_Rv :: .int .i64 r0_Fam_Clock :: .int .i64 r0_Fam_Owner :: .bool r0_Fam_Lost :: .arr (.ints 3 .i64 r0_Fam_Regs) :: .arr (.vecs 161 2 r0_Fam_Start) :: .arr (.vecs 225 3 r0_Fam_Buf) :: .arr (.ints 3 .i64 r0_Fam_Order) :: .arr (.vecs 161 2 r0_Fam_Reads) :: .arr (.rows 214 r0_Fam_Kids) :: [])))
  | _ => none
noncomputable def laws_toRoot_f (A : PM.Prims) (c_37 : laws_toIntS_T) (c_150 : laws_toRowS_T) (c_267 : laws_toMarkS_T) (c_268 : laws_toUndoS_T) (c_269 : laws_toProbe_T) (c_270 : laws_toCommit_T) (c_59 : laws_toFamily_T) (___Phase : Int) (___Tries : Int) (___Spare : Int) (___Pc : Int) (___Rv : Int) (___NewRv : Int) (___At : Int) (___Fate : Int) (___Stamp : Int) (___Began : Int) (___Ended : Int) (___Doomed : Bool) (___Regs : List Int) (___Reads : List (List Int)) (___Writes : List (List Int)) (___Marks : List (List PM.C)) (___Undos : List (List Int)) (___Order : List Int) (___Busy : Bool) (___Probe_Cell : Int) (___Probe_Phase : Int) (___Probe_Ver : Int) (___Probe_Val : Int) (___Commit_Who : Int) (___Commit_Rv : Int) (___Commit_Phase : Int) (___Commit_At : Int) (___Commit_Wv : Int) (___Commit_Puts : List (List Int)) (___Commit_Reads : List Int) (___Fam_Rv : Int) (___Fam_Clock : Int) (___Fam_Owner : Int) (___Fam_Lost : Bool) (___Fam_Regs : List Int) (___Fam_Start : List (List Int)) (___Fam_Buf : List (List Int)) (___Fam_Order : List Int) (___Fam_Reads : List (List Int)) (___Fam_Kids : List (List PM.C)) (k : (Int) → (Int) → (Int) → (Int) → (Int) → (Int) → (Int) → (Int) → (Int) → (Int) → (Int) → (Bool) → (List Int) → (List (List Int)) → (List (List Int)) → (List (List PM.C)) → (List (List Int)) → (List Int) → (Bool) → (Int) → (Int) → (Int) → (Int) → (Int) → (Int) → (Int) → (Int) → (Int) → (List (List Int)) → (List Int) → (Int) → (Int) → (Int) → (Bool) → (List Int) → (List (List Int)) → (List (List Int)) → (List Int) → (List (List Int)) → (List (List PM.C)) → PM.R) : PM.R :=
  c_37 ___Regs (fun r1 =>
    c_150 ___Reads (fun r2 =>
      c_150 ___Writes (fun r3 =>
        c_267 ___Marks (fun r4 =>
          c_268 ___Undos (fun r5 =>
            c_37 ___Order (fun r6 =>
              c_269 ___Probe_Cell ___Probe_Phase ___Probe_Ver ___Probe_Val (fun r7 r8 r9 r10 =>
                c_270 ___Commit_Who ___Commit_Rv ___Commit_Phase ___Commit_At ___Commit_Wv ___Commit_Puts ___Commit_Reads (fun r11 r12 r13 r14 r15 r16 r17 =>
                  c_59 ___Fam_Rv ___Fam_Clock ___Fam_Owner ___Fam_Lost ___Fam_Regs ___Fam_Start ___Fam_Buf ___Fam_Order ___Fam_Reads ___Fam_Kids (fun r18 r19 r20 r21 r22 r23 r24 r25 r26 r27 =>
                    k ___Phase ___Tries ___Spare ___Pc ___Rv ___NewRv ___At ___Fate ___Stamp ___Began ___Ended ___Doomed r1 r2 r3 r4 r5 r6 ___Busy r7 r8 r9 r10 r11 r12 r13 r14 r15 r16 r17 r18 r19 r20 r21 r22 r23 r24 r25 r26 r27)))))))))
noncomputable def laws_toRoot (A : PM.Prims) : laws_toRoot_T := laws_toRoot_f A (laws_toIntS A) (laws_toRowS A) (laws_toMarkS A) (laws_toUndoS A) (laws_toProbe A) (laws_toCommit A) (laws_toFamily A)
noncomputable def laws_toRoot_L (A : PM.Prims) (c_37 : laws_toIntS_T) (c_150 : laws_toRowS_T) (c_267 : laws_toMarkS_T) (c_268 : laws_toUndoS_T) (c_269 : laws_toProbe_T) (c_270 : laws_toCommit_T) (c_59 : laws_toFamily_T) (n : Nat) : PM.Lam := fun cur σ K =>
  match cur, σ, K with
  | _, _, _ => none
noncomputable def laws_toRoot_E (A : PM.Prims) (c_37 : laws_toIntS_T) (c_150 : laws_toRowS_T) (c_267 : laws_toMarkS_T) (c_268 : laws_toUndoS_T) (c_269 : laws_toProbe_T) (c_270 : laws_toCommit_T) (c_59 : laws_toFamily_T) : PM.Env := ⟨[(37, ⟨[], laws_toIntS_w c_37, none⟩), (150, ⟨[], laws_toRowS_w c_150, none⟩), (267, ⟨[], laws_toMarkS_w c_267, none⟩), (268, ⟨[], laws_toUndoS_w c_268, none⟩), (269, ⟨[], laws_toProbe_w c_269, none⟩), (270, ⟨[], laws_toCommit_w c_270, none⟩), (59, ⟨[], laws_toFamily_w c_59, none⟩)], [], [], [(0, [1, 2]), (1, [1, 2, 3]), (2, [1, 2, 3]), (3, [1, 2, 3]), (4, [1, 2, 3]), (5, [1, 2, 3]), (6, [1, 2, 3]), (7, [1, 2, 3]), (8, [1, 2, 3]), (9, [1, 2, 3]), (10, [1, 2, 3]), (11, [1, 2, 3]), (12, [1, 2, 3]), (13, [1, 2, 3]), (14, [1, 2, 3]), (15, [1, 2, 3]), (16, [1, 2, 3]), (17, [1, 2, 3]), (18, [1, 2, 3]), (19, [1, 2, 3]), (20, [1, 2, 3]), (21, [1, 2, 3]), (22, [1, 2, 3]), (23, [2, 3]), (24, [2])], laws_toRoot_L A c_37 c_150 c_267 c_268 c_269 c_270 c_59 A.fuel⟩
theorem laws_toRoot_ok (A : PM.Prims) (c_37 : laws_toIntS_T) (c_150 : laws_toRowS_T) (c_267 : laws_toMarkS_T) (c_268 : laws_toUndoS_T) (c_269 : laws_toProbe_T) (c_270 : laws_toCommit_T) (c_59 : laws_toFamily_T) (___Phase : Int) (___Tries : Int) (___Spare : Int) (___Pc : Int) (___Rv : Int) (___NewRv : Int) (___At : Int) (___Fate : Int) (___Stamp : Int) (___Began : Int) (___Ended : Int) (___Doomed : Bool) (___Regs : List Int) (___Reads : List (List Int)) (___Writes : List (List Int)) (___Marks : List (List PM.C)) (___Undos : List (List Int)) (___Order : List Int) (___Busy : Bool) (___Probe_Cell : Int) (___Probe_Phase : Int) (___Probe_Ver : Int) (___Probe_Val : Int) (___Commit_Who : Int) (___Commit_Rv : Int) (___Commit_Phase : Int) (___Commit_At : Int) (___Commit_Wv : Int) (___Commit_Puts : List (List Int)) (___Commit_Reads : List Int) (___Fam_Rv : Int) (___Fam_Clock : Int) (___Fam_Owner : Int) (___Fam_Lost : Bool) (___Fam_Regs : List Int) (___Fam_Start : List (List Int)) (___Fam_Buf : List (List Int)) (___Fam_Order : List Int) (___Fam_Reads : List (List Int)) (___Fam_Kids : List (List PM.C)) (k : PM.V → PM.R) : PM.pfun A cx [] (laws_toRoot_E A c_37 c_150 c_267 c_268 c_269 c_270 c_59) Go.Proofs.Try.f203 [.agg (.int .i64 ___Phase :: .int .i64 ___Tries :: .int .i64 ___Spare :: .int .i64 ___Pc :: .int .i64 ___Rv :: .int .i64 ___NewRv :: .int .i64 ___At :: .int .i64 ___Fate :: .int .i64 ___Stamp :: .int .i64 ___Began :: .int .i64 ___Ended :: .bool ___Doomed :: .arr (.ints 3 .i64 ___Regs) :: .arr (.vecs 297 2 ___Reads) :: .arr (.vecs 297 2 ___Writes) :: .arr (.rows 395 ___Marks) :: .arr (.vecs 401 3 ___Undos) :: .arr (.ints 3 .i64 ___Order) :: .bool ___Busy :: .int .i64 ___Probe_Cell :: .int .i64 ___Probe_Phase :: .int .i64 ___Probe_Ver :: .int .i64 ___Probe_Val :: .int .i64 ___Commit_Who :: .int .i64 ___Commit_Rv :: .int .i64 ___Commit_Phase :: .int .i64 ___Commit_At :: .int .i64 ___Commit_Wv :: .arr (.vecs 297 2 ___Commit_Puts) :: .arr (.ints 3 .i64 ___Commit_Reads) :: .int .i64 ___Fam_Rv :: .int .i64 ___Fam_Clock :: .int .i64 ___Fam_Owner :: .bool ___Fam_Lost :: .arr (.ints 3 .i64 ___Fam_Regs) :: .arr (.vecs 297 2 ___Fam_Start) :: .arr (.vecs 299 3 ___Fam_Buf) :: .arr (.ints 3 .i64 ___Fam_Order) :: .arr (.vecs 297 2 ___Fam_Reads) :: .arr (.rows 295 ___Fam_Kids) :: [])] k = laws_toRoot_f A c_37 c_150 c_267 c_268 c_269 c_270 c_59 ___Phase ___Tries ___Spare ___Pc ___Rv ___NewRv ___At ___Fate ___Stamp ___Began ___Ended ___Doomed ___Regs ___Reads ___Writes ___Marks ___Undos ___Order ___Busy ___Probe_Cell ___Probe_Phase ___Probe_Ver ___Probe_Val ___Commit_Who ___Commit_Rv ___Commit_Phase ___Commit_At ___Commit_Wv ___Commit_Puts ___Commit_Reads ___Fam_Rv ___Fam_Clock ___Fam_Owner ___Fam_Lost ___Fam_Regs ___Fam_Start ___Fam_Buf ___Fam_Order ___Fam_Reads ___Fam_Kids (fun r0_Phase r0_Tries r0_Spare r0_Pc r0_Rv r0_NewRv r0_At r0_Fate r0_Stamp r0_Began r0_Ended r0_Doomed r0_Regs r0_Reads r0_Writes r0_Marks r0_Undos r0_Order r0_Busy r0_Probe_Cell r0_Probe_Phase r0_Probe_Ver r0_Probe_Val r0_Commit_Who r0_Commit_Rv r0_Commit_Phase r0_Commit_At r0_Commit_Wv r0_Commit_Puts r0_Commit_Reads r0_Fam_Rv r0_Fam_Clock r0_Fam_Owner r0_Fam_Lost r0_Fam_Regs r0_Fam_Start r0_Fam_Buf r0_Fam_Order r0_Fam_Reads r0_Fam_Kids => k (.agg (.int .i64 r0_Phase :: .int .i64 r0_Tries :: .int .i64 r0_Spare :: .int .i64 r0_Pc :: .int .i64 r0_Rv :: .int .i64 r0_NewRv :: .int .i64 r0_At :: .int .i64 r0_Fate :: .int .i64 r0_Stamp :: .int .i64 r0_Began :: .int .i64 r0_Ended :: .bool r0_Doomed :: .arr (.ints 3 .i64 r0_Regs) :: .arr (.vecs 161 2 r0_Reads) :: .arr (.vecs 161 2 r0_Writes) :: .arr (.rows 396 r0_Marks) :: .arr (.vecs 399 3 r0_Undos) :: .arr (.ints 3 .i64 r0_Order) :: .bool r0_Busy :: .int .i64 r0_Probe_Cell :: .int .i64 r0_Probe_Phase :: .int .i64 r0_Probe_Ver :: .int .i64 r0_Probe_Val :: .int .i64 r0_Commit_Who :: .int .i64 r0_Commit_Rv :: .int .i64 r0_Commit_Phase :: .int .i64 r0_Commit_At :: .int .i64 r0_Commit_Wv :: .arr (.vecs 161 2 r0_Commit_Puts) :: .arr (.ints 3 .i64 r0_Commit_Reads) :: .int .i64 r0_Fam_Rv :: .int .i64 r0_Fam_Clock :: .int .i64 r0_Fam_Owner :: .bool r0_Fam_Lost :: .arr (.ints 3 .i64 r0_Fam_Regs) :: .arr (.vecs 161 2 r0_Fam_Start) :: .arr (.vecs 225 3 r0_Fam_Buf) :: .arr (.ints 3 .i64 r0_Fam_Order) :: .arr (.vecs 161 2 r0_Fam_Reads) :: .arr (.rows 214 r0_Fam_Kids) :: []))) := by kernel_rfl

theorem laws_toRoot_fn : PM.FnIs Try.prog 203 Try.f203 := .of Try.func203 (by kernel_rfl) (by kernel_rfl)
theorem laws_toRoot_g : PM.GOk Try.prog cx 203 ⟨[], laws_toRoot_w (laws_toRoot PM.std), none⟩ := by
  refine ⟨laws_toRoot_fn.enter, fun _ ds k r h => ?_, fun hm => absurd rfl hm, fun _ e => (by cases e)⟩
  change laws_toRoot_w (laws_toRoot PM.std) ds k = some r at h
  unfold laws_toRoot_w at h
  split at h
  · exact PM.pfun_ok (E := laws_toRoot_E PM.std (laws_toIntS PM.std) (laws_toRowS PM.std) (laws_toMarkS PM.std) (laws_toUndoS PM.std) (laws_toProbe PM.std) (laws_toCommit PM.std) (laws_toFamily PM.std)) (L := fun n => laws_toRoot_L PM.std (laws_toIntS PM.std) (laws_toRowS PM.std) (laws_toMarkS PM.std) (laws_toUndoS PM.std) (laws_toProbe PM.std) (laws_toCommit PM.std) (laws_toFamily PM.std) n) (N := PM.std.fuel) cx_ok (.cons laws_toIntS_g (.cons laws_toRowS_g (.cons laws_toMarkS_g (.cons laws_toUndoS_g (.cons laws_toProbe_g (.cons laws_toCommit_g (.cons laws_toFamily_g .nil))))))) mixed .nil laws_toRoot_fn (by kernel_rfl) ⟨rfl, fun _ _ _ => rfl, fun n cur σ K r h => by cases h⟩
      ((laws_toRoot_ok PM.std (laws_toIntS PM.std) (laws_toRowS PM.std) (laws_toMarkS PM.std) (laws_toUndoS PM.std) (laws_toProbe PM.std) (laws_toCommit PM.std) (laws_toFamily PM.std) _ _ _ _ _ _ _ _ _ _ _ _ _ _ _ _ _ _ _ _ _ _ _ _ _ _ _ _ _ _ _ _ _ _ _ _ _ _ _ _ k).trans h)
  · cases h

abbrev laws_toRootS_T := (List (List PM.C)) → ((List (List PM.C)) → PM.R) → PM.R
noncomputable def laws_toRootS_w (c : laws_toRootS_T) (ds : List PM.V) (k : PM.V → PM.R) : PM.R :=
  match ds with
  | [.arr (.rows 272 a)] => c a (fun r0 => k (.arr (.rows 175 r0)))
  | _ => none
noncomputable def laws_toRootS_l0 (A : PM.Prims) (c_203 : laws_toRoot_T) : Nat → (List (List C)) → (Int) → (List (List C)) → ((List (List C)) → PM.R) → PM.R
  | 0, _, _, _, _ => none
  | n + 1, a1, i2, o03, kx0_0 =>
    bif (A.lt i2 (A.rlen a1)) then
      bif (A.inb i2 (A.rlen a1)) then
        c_203 (A.rint a1 i2 0) (A.rint a1 i2 1) (A.rint a1 i2 2) (A.rint a1 i2 3) (A.rint a1 i2 4) (A.rint a1 i2 5) (A.rint a1 i2 6) (A.rint a1 i2 7) (A.rint a1 i2 8) (A.rint a1 i2 9) (A.rint a1 i2 10) (A.rbool a1 i2 11) (A.rsi a1 i2 12) (A.rsv 2 a1 i2 13) (A.rsv 2 a1 i2 14) (A.rsr a1 i2 15) (A.rsv 3 a1 i2 16) (A.rsi a1 i2 17) (A.rbool a1 i2 18) (A.rint a1 i2 19) (A.rint a1 i2 20) (A.rint a1 i2 21) (A.rint a1 i2 22) (A.rint a1 i2 23) (A.rint a1 i2 24) (A.rint a1 i2 25) (A.rint a1 i2 26) (A.rint a1 i2 27) (A.rsv 2 a1 i2 28) (A.rsi a1 i2 29) (A.rint a1 i2 30) (A.rint a1 i2 31) (A.rint a1 i2 32) (A.rbool a1 i2 33) (A.rsi a1 i2 34) (A.rsv 2 a1 i2 35) (A.rsv 3 a1 i2 36) (A.rsi a1 i2 37) (A.rsv 2 a1 i2 38) (A.rsr a1 i2 39) (fun r4 r5 r6 r7 r8 r9 r10 r11 r12 r13 r14 r15 r16 r17 r18 r19 r20 r21 r22 r23 r24 r25 r26 r27 r28 r29 r30 r31 r32 r33 r34 r35 r36 r37 r38 r39 r40 r41 r42 r43 =>
          bif (A.inb i2 (A.rlen o03)) then
            laws_toRootS_l0 A c_203 n a1 (A.add .i64 i2 1) (A.rput o03 i2 [(.i r4), (.i r5), (.i r6), (.i r7), (.i r8), (.i r9), (.i r10), (.i r11), (.i r12), (.i r13), (.i r14), (.b r15), (.s (A.ofi r16)), (.s (A.ofv r17)), (.s (A.ofv r18)), (.s r19), (.s (A.ofv r20)), (.s (A.ofi r21)), (.b r22), (.i r23), (.i r24), (.i r25), (.i r26), (.i r27), (.i r28), (.i r29), (.i r30), (.i r31), (.s (A.ofv r32)), (.s (A.ofi r33)), (.i r34), (.i r35), (.i r36), (.b r37), (.s (A.ofi r38)), (.s (A.ofv r39)), (.s (A.ofv r40)), (.s (A.ofi r41)), (.s (A.ofv r42)), (.s r43)]) kx0_0
          else
            none)
      else
        none
    else
      kx0_0 o03
noncomputable def laws_toRootS_f (A : PM.Prims) (c_203 : laws_toRoot_T) (a : List (List PM.C)) (k : (List (List PM.C)) → PM.R) : PM.R :=
  bif (A.mkOk (A.rlen a)) then
    bif (A.le (A.rlen a) (A.rlen a)) then
      bif (A.mkOk (A.rlen a)) then
        laws_toRootS_l0 A c_203 A.fuel a 0 (A.rzero [(.i 0), (.i 0), (.i 0), (.i 0), (.i 0), (.i 0), (.i 0), (.i 0), (.i 0), (.i 0), (.i 0), (.b false), (.s (A.ofi [])), (.s (A.ofv [])), (.s (A.ofv [])), (.s []), (.s (A.ofv [])), (.s (A.ofi [])), (.b false), (.i 0), (.i 0), (.i 0), (.i 0), (.i 0), (.i 0), (.i 0), (.i 0), (.i 0), (.s (A.ofv [])), (.s (A.ofi [])), (.i 0), (.i 0), (.i 0), (.b false), (.s (A.ofi [])), (.s (A.ofv [])), (.s (A.ofv [])), (.s (A.ofi [])), (.s (A.ofv [])), (.s [])] (A.rlen a)) (fun o04445 =>
          k o04445)
      else
        none
    else
      none
  else
    none
noncomputable def laws_toRootS (A : PM.Prims) : laws_toRootS_T := laws_toRootS_f A (laws_toRoot A)
noncomputable def laws_toRootS_L (A : PM.Prims) (c_203 : laws_toRoot_T) (n : Nat) : PM.Lam := fun cur σ K =>
  match cur, σ, K with
  | 0, ⟨[(0, .arr (.rows 272 a1)), (3, .sref 0), (4, .int .i64 i2)], [(0, .arr true (.rows 175 o03))]⟩, K => laws_toRootS_l0 A c_203 n a1 i2 o03 (fun o044 => K (.exit 0) ⟨[(3, .sref 0)], [(0, .arr true (.rows 175 o044))]⟩)
  | _, _, _ => none
noncomputable def laws_toRootS_E (A : PM.Prims) (c_203 : laws_toRoot_T) : PM.Env := ⟨[(203, ⟨[], laws_toRoot_w c_203, none⟩)], [], [(0, [0, 3, 4], [2, 3])], [(0, [0]), (1, [0, 3]), (2, [0, 3, 4]), (3, [0, 3, 4, 11]), (4, [0, 3, 4]), (5, [0, 3, 4]), (6, [2])], laws_toRootS_L A c_203 A.fuel⟩
theorem laws_toRootS_l0_ok (A : PM.Prims) (c_203 : laws_toRoot_T) (n : Nat) (a1 : List (List C)) (i2 : Int) (o03 : List (List C)) (K : Go.Exit → PM.S → PM.R) : laws_toRootS_L A c_203 (n + 1) 0 ⟨[(0, .arr (.rows 272 a1)), (3, .sref 0), (4, .int .i64 i2)], [(0, .arr true (.rows 175 o03))]⟩ K = PM.roundF A cx (PM.runD A cx (laws_toRootS_E A c_203).inl (laws_toRootS_E A c_203).Γ 3) (laws_toRootS_E A c_203) (laws_toRootS_L A c_203 n) 0 Go.Proofs.Try.f115 ⟨[(0, .arr (.rows 272 a1)), (3, .sref 0), (4, .int .i64 i2)], [(0, .arr true (.rows 175 o03))]⟩ K := by kernel_rfl
theorem laws_toRootS_ok (A : PM.Prims) (c_203 : laws_toRoot_T) (a : List (List PM.C)) (k : PM.V → PM.R) : PM.pfun A cx [] (laws_toRootS_E A c_203) Go.Proofs.Try.f115 [.arr (.rows 272 a)] k = laws_toRootS_f A c_203 a (fun r0 => k (.arr (.rows 175 r0))) := by kernel_rfl

theorem laws_toRootS_fn : PM.FnIs Try.prog 115 Try.f115 := .of Try.func115 (by kernel_rfl) (by kernel_rfl)
theorem laws_toRootS_g : PM.GOk Try.prog cx 115 ⟨[], laws_toRootS_w (laws_toRootS PM.std), none⟩ := by
  refine ⟨laws_toRootS_fn.enter, fun _ ds k r h => ?_, fun hm => absurd rfl hm, fun _ e => (by cases e)⟩
  change laws_toRootS_w (laws_toRootS PM.std) ds k = some r at h
  unfold laws_toRootS_w at h
  split at h
  · exact PM.pfun_ok (E := laws_toRootS_E PM.std (laws_toRoot PM.std)) (L := fun n => laws_toRootS_L PM.std (laws_toRoot PM.std) n) (N := PM.std.fuel) cx_ok (.cons laws_toRoot_g .nil) mixed .nil laws_toRootS_fn (by kernel_rfl) ⟨rfl, fun cur σ K => by
      dsimp only [laws_toRootS_L]
      split <;> rfl, fun n cur σ K r h => by
      dsimp only [laws_toRootS_L] at h
      split at h
      · exact (laws_toRootS_l0_ok PM.std (laws_toRoot PM.std) n _ _ _ K).symm.trans h
      · cases h⟩
      ((laws_toRootS_ok PM.std (laws_toRoot PM.std) _ k).trans h)
  · cases h

abbrev laws_toWrote_T := (Int) → (Int) → (List (List Int)) → ((Int) → (Int) → (List (List Int)) → PM.R) → PM.R
noncomputable def laws_toWrote_w (c : laws_toWrote_T) (ds : List PM.V) (k : PM.V → PM.R) : PM.R :=
  match ds with
  | [.agg [.int .i64 a_Stamp, .int .i64 a_Who, .arr (.vecs 297 2 a_Puts)]] => c a_Stamp a_Who a_Puts (fun r0_Stamp r0_Who r0_Puts => k (.agg [.int .i64 r0_Stamp, .int .i64 r0_Who, .arr (.vecs 161 2 r0_Puts)]))
  | _ => none
noncomputable def laws_toWrote_f (A : PM.Prims) (c_150 : laws_toRowS_T) (a_Stamp : Int) (a_Who : Int) (a_Puts : List (List Int)) (k : (Int) → (Int) → (List (List Int)) → PM.R) : PM.R :=
  c_150 a_Puts (fun r1 =>
    k a_Stamp a_Who r1)
noncomputable def laws_toWrote (A : PM.Prims) : laws_toWrote_T := laws_toWrote_f A (laws_toRowS A)
noncomputable def laws_toWrote_L (A : PM.Prims) (c_150 : laws_toRowS_T) (n : Nat) : PM.Lam := fun cur σ K =>
  match cur, σ, K with
  | _, _, _ => none
noncomputable def laws_toWrote_E (A : PM.Prims) (c_150 : laws_toRowS_T) : PM.Env := ⟨[(150, ⟨[], laws_toRowS_w c_150, none⟩)], [], [], [(0, [1, 2]), (1, [1, 2, 3]), (2, [1, 2, 3]), (3, [1, 2, 3]), (4, [2, 3]), (5, [2])], laws_toWrote_L A c_150 A.fuel⟩
theorem laws_toWrote_ok (A : PM.Prims) (c_150 : laws_toRowS_T) (a_Stamp : Int) (a_Who : Int) (a_Puts : List (List Int)) (k : PM.V → PM.R) : PM.pfun A cx [] (laws_toWrote_E A c_150) Go.Proofs.Try.f133 [.agg [.int .i64 a_Stamp, .int .i64 a_Who, .arr (.vecs 297 2 a_Puts)]] k = laws_toWrote_f A c_150 a_Stamp a_Who a_Puts (fun r0_Stamp r0_Who r0_Puts => k (.agg [.int .i64 r0_Stamp, .int .i64 r0_Who, .arr (.vecs 161 2 r0_Puts)])) := by kernel_rfl

theorem laws_toWrote_fn : PM.FnIs Try.prog 133 Try.f133 := .of Try.func133 (by kernel_rfl) (by kernel_rfl)
theorem laws_toWrote_g : PM.GOk Try.prog cx 133 ⟨[], laws_toWrote_w (laws_toWrote PM.std), none⟩ := by
  refine ⟨laws_toWrote_fn.enter, fun _ ds k r h => ?_, fun hm => absurd rfl hm, fun _ e => (by cases e)⟩
  change laws_toWrote_w (laws_toWrote PM.std) ds k = some r at h
  unfold laws_toWrote_w at h
  split at h
  · exact PM.pfun_ok (E := laws_toWrote_E PM.std (laws_toRowS PM.std)) (L := fun n => laws_toWrote_L PM.std (laws_toRowS PM.std) n) (N := PM.std.fuel) cx_ok (.cons laws_toRowS_g .nil) mixed .nil laws_toWrote_fn (by kernel_rfl) ⟨rfl, fun _ _ _ => rfl, fun n cur σ K r h => by cases h⟩
      ((laws_toWrote_ok PM.std (laws_toRowS PM.std) _ _ _ k).trans h)
  · cases h

abbrev laws_toWroteS_T := (List (List PM.C)) → ((List (List PM.C)) → PM.R) → PM.R
noncomputable def laws_toWroteS_w (c : laws_toWroteS_T) (ds : List PM.V) (k : PM.V → PM.R) : PM.R :=
  match ds with
  | [.arr (.rows 195 a)] => c a (fun r0 => k (.arr (.rows 33 r0)))
  | _ => none
noncomputable def laws_toWroteS_l0 (A : PM.Prims) (c_133 : laws_toWrote_T) : Nat → (List (List C)) → (Int) → (List (List C)) → ((List (List C)) → PM.R) → PM.R
  | 0, _, _, _, _ => none
  | n + 1, a1, i2, o03, kx0_0 =>
    bif (A.lt i2 (A.rlen a1)) then
      bif (A.inb i2 (A.rlen a1)) then
        c_133 (A.rint a1 i2 0) (A.rint a1 i2 1) (A.rsv 2 a1 i2 2) (fun r4 r5 r6 =>
          bif (A.inb i2 (A.rlen o03)) then
            laws_toWroteS_l0 A c_133 n a1 (A.add .i64 i2 1) (A.rput o03 i2 [(.i r4), (.i r5), (.s (A.ofv r6))]) kx0_0
          else
            none)
      else
        none
    else
      kx0_0 o03
noncomputable def laws_toWroteS_f (A : PM.Prims) (c_133 : laws_toWrote_T) (a : List (List PM.C)) (k : (List (List PM.C)) → PM.R) : PM.R :=
  bif (A.mkOk (A.rlen a)) then
    bif (A.le (A.rlen a) (A.rlen a)) then
      bif (A.mkOk (A.rlen a)) then
        laws_toWroteS_l0 A c_133 A.fuel a 0 (A.rzero [(.i 0), (.i 0), (.s (A.ofv []))] (A.rlen a)) (fun o078 =>
          k o078)
      else
        none
    else
      none
  else
    none
noncomputable def laws_toWroteS (A : PM.Prims) : laws_toWroteS_T := laws_toWroteS_f A (laws_toWrote A)
noncomputable def laws_toWroteS_L (A : PM.Prims) (c_133 : laws_toWrote_T) (n : Nat) : PM.Lam := fun cur σ K =>
  match cur, σ, K with
  | 0, ⟨[(0, .arr (.rows 195 a1)), (3, .sref 0), (4, .int .i64 i2)], [(0, .arr true (.rows 33 o03))]⟩, K => laws_toWroteS_l0 A c_133 n a1 i2 o03 (fun o07 => K (.exit 0) ⟨[(3, .sref 0)], [(0, .arr true (.rows 33 o07))]⟩)
  | _, _, _ => none
noncomputable def laws_toWroteS_E (A : PM.Prims) (c_133 : laws_toWrote_T) : PM.Env := ⟨[(133, ⟨[], laws_toWrote_w c_133, none⟩)], [], [(0, [0, 3, 4], [2, 3])], [(0, [0]), (1, [0, 3]), (2, [0, 3, 4]), (3, [0, 3, 4, 11]), (4, [0, 3, 4]), (5, [0, 3, 4]), (6, [2])], laws_toWroteS_L A c_133 A.fuel⟩
theorem laws_toWroteS_l0_ok (A : PM.Prims) (c_133 : laws_toWrote_T) (n : Nat) (a1 : List (List C)) (i2 : Int) (o03 : List (List C)) (K : Go.Exit → PM.S → PM.R) : laws_toWroteS_L A c_133 (n + 1) 0 ⟨[(0, .arr (.rows 195 a1)), (3, .sref 0), (4, .int .i64 i2)], [(0, .arr true (.rows 33 o03))]⟩ K = PM.roundF A cx (PM.runD A cx (laws_toWroteS_E A c_133).inl (laws_toWroteS_E A c_133).Γ 3) (laws_toWroteS_E A c_133) (laws_toWroteS_L A c_133 n) 0 Go.Proofs.Try.f43 ⟨[(0, .arr (.rows 195 a1)), (3, .sref 0), (4, .int .i64 i2)], [(0, .arr true (.rows 33 o03))]⟩ K := by kernel_rfl
theorem laws_toWroteS_ok (A : PM.Prims) (c_133 : laws_toWrote_T) (a : List (List PM.C)) (k : PM.V → PM.R) : PM.pfun A cx [] (laws_toWroteS_E A c_133) Go.Proofs.Try.f43 [.arr (.rows 195 a)] k = laws_toWroteS_f A c_133 a (fun r0 => k (.arr (.rows 33 r0))) := by kernel_rfl

theorem laws_toWroteS_fn : PM.FnIs Try.prog 43 Try.f43 := .of Try.func43 (by kernel_rfl) (by kernel_rfl)
theorem laws_toWroteS_g : PM.GOk Try.prog cx 43 ⟨[], laws_toWroteS_w (laws_toWroteS PM.std), none⟩ := by
  refine ⟨laws_toWroteS_fn.enter, fun _ ds k r h => ?_, fun hm => absurd rfl hm, fun _ e => (by cases e)⟩
  change laws_toWroteS_w (laws_toWroteS PM.std) ds k = some r at h
  unfold laws_toWroteS_w at h
  split at h
  · exact PM.pfun_ok (E := laws_toWroteS_E PM.std (laws_toWrote PM.std)) (L := fun n => laws_toWroteS_L PM.std (laws_toWrote PM.std) n) (N := PM.std.fuel) cx_ok (.cons laws_toWrote_g .nil) mixed .nil laws_toWroteS_fn (by kernel_rfl) ⟨rfl, fun cur σ K => by
      dsimp only [laws_toWroteS_L]
      split <;> rfl, fun n cur σ K r h => by
      dsimp only [laws_toWroteS_L] at h
      split at h
      · exact (laws_toWroteS_l0_ok PM.std (laws_toWrote PM.std) n _ _ _ K).symm.trans h
      · cases h⟩
      ((laws_toWroteS_ok PM.std (laws_toWrote PM.std) _ k).trans h)
  · cases h

abbrev laws_toWorld_T := (Int) → (Int) → (Int) → (List (List Int)) → (List Int) → (Int) → (List (List Int)) → (List (List PM.C)) → (List (List PM.C)) → ((Int) → (Int) → (Int) → (List (List Int)) → (List Int) → (Int) → (List (List Int)) → (List (List PM.C)) → (List (List PM.C)) → PM.R) → PM.R
noncomputable def laws_toWorld_w (c : laws_toWorld_T) (ds : List PM.V) (k : PM.V → PM.R) : PM.R :=
  match ds with
  | [.agg [.int .i64 a_Now, .int .i64 a_Token, .int .i64 a_Mem_Clock, .arr (.vecs 354 3 a_Mem_Cells), .arr (.ints 3 .i64 a_Shelf_Slots), .int .i64 a_Shelf_Count, .arr (.vecs 277 3 a_Holds), .arr (.rows 272 a_Roots), .arr (.rows 195 a_Hist)]] => c a_Now a_Token a_Mem_Clock a_Mem_Cells a_Shelf_Slots a_Shelf_Count a_Holds a_Roots a_Hist (fun r0_Now r0_Token r0_Mem_Clock r0_Mem_Cells r0_Shelf_Slots r0_Shelf_Count r0_Holds r0_Roots r0_Hist => k (.agg [.int .i64 r0_Now, .int .i64 r0_Token, .int .i64 r0_Mem_Clock, .arr (.vecs 287 3 r0_Mem_Cells), .arr (.ints 3 .i64 r0_Shelf_Slots), .int .i64 r0_Shelf_Count, .arr (.vecs 275 3 r0_Holds), .arr (.rows 175 r0_Roots), .arr (.rows 33 r0_Hist)]))
  | _ => none
noncomputable def laws_toWorld_f (A : PM.Prims) (c_112 : laws_toMem_T) (c_113 : laws_toShelf_T) (c_114 : laws_toHoldS_T) (c_115 : laws_toRootS_T) (c_43 : laws_toWroteS_T) (a_Now : Int) (a_Token : Int) (a_Mem_Clock : Int) (a_Mem_Cells : List (List Int)) (a_Shelf_Slots : List Int) (a_Shelf_Count : Int) (a_Holds : List (List Int)) (a_Roots : List (List PM.C)) (a_Hist : List (List PM.C)) (k : (Int) → (Int) → (Int) → (List (List Int)) → (List Int) → (Int) → (List (List Int)) → (List (List PM.C)) → (List (List PM.C)) → PM.R) : PM.R :=
  c_112 a_Mem_Clock a_Mem_Cells (fun r1 r2 =>
    c_113 a_Shelf_Slots a_Shelf_Count (fun r3 r4 =>
      c_114 a_Holds (fun r5 =>
        c_115 a_Roots (fun r6 =>
          c_43 a_Hist (fun r7 =>
            k a_Now a_Token r1 r2 r3 r4 r5 r6 r7)))))
noncomputable def laws_toWorld (A : PM.Prims) : laws_toWorld_T := laws_toWorld_f A (laws_toMem A) (laws_toShelf A) (laws_toHoldS A) (laws_toRootS A) (laws_toWroteS A)
noncomputable def laws_toWorld_L (A : PM.Prims) (c_112 : laws_toMem_T) (c_113 : laws_toShelf_T) (c_114 : laws_toHoldS_T) (c_115 : laws_toRootS_T) (c_43 : laws_toWroteS_T) (n : Nat) : PM.Lam := fun cur σ K =>
  match cur, σ, K with
  | _, _, _ => none
noncomputable def laws_toWorld_E (A : PM.Prims) (c_112 : laws_toMem_T) (c_113 : laws_toShelf_T) (c_114 : laws_toHoldS_T) (c_115 : laws_toRootS_T) (c_43 : laws_toWroteS_T) : PM.Env := ⟨[(112, ⟨[], laws_toMem_w c_112, none⟩), (113, ⟨[], laws_toShelf_w c_113, none⟩), (114, ⟨[], laws_toHoldS_w c_114, none⟩), (115, ⟨[], laws_toRootS_w c_115, none⟩), (43, ⟨[], laws_toWroteS_w c_43, none⟩)], [], [], [(0, [1, 2]), (1, [1, 2, 3]), (2, [1, 2, 3]), (3, [1, 2, 3]), (4, [1, 2, 3]), (5, [1, 2, 3]), (6, [1, 2, 3]), (7, [1, 2, 3]), (8, [2, 3]), (9, [2])], laws_toWorld_L A c_112 c_113 c_114 c_115 c_43 A.fuel⟩
theorem laws_toWorld_ok (A : PM.Prims) (c_112 : laws_toMem_T) (c_113 : laws_toShelf_T) (c_114 : laws_toHoldS_T) (c_115 : laws_toRootS_T) (c_43 : laws_toWroteS_T) (a_Now : Int) (a_Token : Int) (a_Mem_Clock : Int) (a_Mem_Cells : List (List Int)) (a_Shelf_Slots : List Int) (a_Shelf_Count : Int) (a_Holds : List (List Int)) (a_Roots : List (List PM.C)) (a_Hist : List (List PM.C)) (k : PM.V → PM.R) : PM.pfun A cx [] (laws_toWorld_E A c_112 c_113 c_114 c_115 c_43) Go.Proofs.Try.f32 [.agg [.int .i64 a_Now, .int .i64 a_Token, .int .i64 a_Mem_Clock, .arr (.vecs 354 3 a_Mem_Cells), .arr (.ints 3 .i64 a_Shelf_Slots), .int .i64 a_Shelf_Count, .arr (.vecs 277 3 a_Holds), .arr (.rows 272 a_Roots), .arr (.rows 195 a_Hist)]] k = laws_toWorld_f A c_112 c_113 c_114 c_115 c_43 a_Now a_Token a_Mem_Clock a_Mem_Cells a_Shelf_Slots a_Shelf_Count a_Holds a_Roots a_Hist (fun r0_Now r0_Token r0_Mem_Clock r0_Mem_Cells r0_Shelf_Slots r0_Shelf_Count r0_Holds r0_Roots r0_Hist => k (.agg [.int .i64 r0_Now, .int .i64 r0_Token, .int .i64 r0_Mem_Clock, .arr (.vecs 287 3 r0_Mem_Cells), .arr (.ints 3 .i64 r0_Shelf_Slots), .int .i64 r0_Shelf_Count, .arr (.vecs 275 3 r0_Holds), .arr (.rows 175 r0_Roots), .arr (.rows 33 r0_Hist)])) := by kernel_rfl

theorem laws_toWorld_fn : PM.FnIs Try.prog 32 Try.f32 := .of Try.func32 (by kernel_rfl) (by kernel_rfl)
theorem laws_toWorld_g : PM.GOk Try.prog cx 32 ⟨[], laws_toWorld_w (laws_toWorld PM.std), none⟩ := by
  refine ⟨laws_toWorld_fn.enter, fun _ ds k r h => ?_, fun hm => absurd rfl hm, fun _ e => (by cases e)⟩
  change laws_toWorld_w (laws_toWorld PM.std) ds k = some r at h
  unfold laws_toWorld_w at h
  split at h
  · exact PM.pfun_ok (E := laws_toWorld_E PM.std (laws_toMem PM.std) (laws_toShelf PM.std) (laws_toHoldS PM.std) (laws_toRootS PM.std) (laws_toWroteS PM.std)) (L := fun n => laws_toWorld_L PM.std (laws_toMem PM.std) (laws_toShelf PM.std) (laws_toHoldS PM.std) (laws_toRootS PM.std) (laws_toWroteS PM.std) n) (N := PM.std.fuel) cx_ok (.cons laws_toMem_g (.cons laws_toShelf_g (.cons laws_toHoldS_g (.cons laws_toRootS_g (.cons laws_toWroteS_g .nil))))) mixed .nil laws_toWorld_fn (by kernel_rfl) ⟨rfl, fun _ _ _ => rfl, fun n cur σ K r h => by cases h⟩
      ((laws_toWorld_ok PM.std (laws_toMem PM.std) (laws_toShelf PM.std) (laws_toHoldS PM.std) (laws_toRootS PM.std) (laws_toWroteS PM.std) _ _ _ _ _ _ _ _ _ k).trans h)
  · cases h

abbrev spec_Over_T := (Int) → (Int) → (Int) → (List (List Int)) → (List Int) → (Int) → (List (List Int)) → (List (List PM.C)) → (List (List PM.C)) → ((Bool) → PM.R) → PM.R
noncomputable def spec_Over_w (c : spec_Over_T) (ds : List PM.V) (k : PM.V → PM.R) : PM.R :=
  match ds with
  | [.agg [.int .i64 w_Now, .int .i64 w_Token, .int .i64 w_Mem_Clock, .arr (.vecs 287 3 w_Mem_Cells), .arr (.ints 3 .i64 w_Shelf_Slots), .int .i64 w_Shelf_Count, .arr (.vecs 275 3 w_Holds), .arr (.rows 175 w_Roots), .arr (.rows 33 w_Hist)]] => c w_Now w_Token w_Mem_Clock w_Mem_Cells w_Shelf_Slots w_Shelf_Count w_Holds w_Roots w_Hist (fun r0 => k (.bool r0))
  | _ => none
noncomputable def spec_Over_l0 (A : PM.Prims) : Nat → (Int) → (Int) → (Int) → (Int) → (List (List Int)) → (List Int) → (Int) → (List (List Int)) → (List (List C)) → (List (List C)) → ((Bool) → PM.R) → (Unit → PM.R) → PM.R
  | 0, _, _, _, _, _, _, _, _, _, _, _, _ => none
  | n + 1, i1, o02, o03, o04, o05, o06, o07, o08, o09, o010, kret_0, kx0_0 =>
    bif (A.lt i1 (A.rlen o09)) then
      bif (A.inb i1 (A.rlen o09)) then
        bif (A.not (A.eq (A.rint o09 i1 0) 8)) then
          kret_0 false
        else
          spec_Over_l0 A n (A.add .i64 i1 1) o02 o03 o04 o05 o06 o07 o08 o09 o010 kret_0 kx0_0
      else
        none
    else
      kx0_0 ()
noncomputable def spec_Over_f (A : PM.Prims) (w_Now : Int) (w_Token : Int) (w_Mem_Clock : Int) (w_Mem_Cells : List (List Int)) (w_Shelf_Slots : List Int) (w_Shelf_Count : Int) (w_Holds : List (List Int)) (w_Roots : List (List PM.C)) (w_Hist : List (List PM.C)) (k : (Bool) → PM.R) : PM.R :=
  spec_Over_l0 A A.fuel 0 w_Now w_Token w_Mem_Clock w_Mem_Cells w_Shelf_Slots w_Shelf_Count w_Holds w_Roots w_Hist (fun t21112 =>
    k t21112) (fun _ =>
    k true)
noncomputable def spec_Over (A : PM.Prims) : spec_Over_T := spec_Over_f A
noncomputable def spec_Over_L (A : PM.Prims) (n : Nat) : PM.Lam := fun cur σ K =>
  match cur, σ, K with
  | 0, ⟨[(1, .pbox 0 0), (3, .int .i64 i1)], [(0, .box [.int .i64 o02, .int .i64 o03, .int .i64 o04, .arr (.vecs 287 3 o05), .arr (.ints 3 .i64 o06), .int .i64 o07, .arr (.vecs 275 3 o08), .arr (.rows 175 o09), .arr (.rows 33 o010)])]⟩, K => spec_Over_l0 A n i1 o02 o03 o04 o05 o06 o07 o08 o09 o010 (fun t211 => K .ret ⟨[(2, .bool t211)], []⟩) (fun _ => K (.exit 0) ⟨[], []⟩)
  | _, _, _ => none
noncomputable def spec_Over_E (A : PM.Prims) : PM.Env := ⟨[], [], [(0, [1, 3], [2])], [(0, [1]), (1, [1, 3]), (2, [1, 3, 8]), (3, [1, 3]), (4, [1, 3, 17]), (5, [2]), (6, [2])], spec_Over_L A A.fuel⟩
theorem spec_Over_l0_ok (A : PM.Prims) (n : Nat) (i1 : Int) (o02 : Int) (o03 : Int) (o04 : Int) (o05 : List (List Int)) (o06 : List Int) (o07 : Int) (o08 : List (List Int)) (o09 : List (List C)) (o010 : List (List C)) (K : Go.Exit → PM.S → PM.R) : spec_Over_L A (n + 1) 0 ⟨[(1, .pbox 0 0), (3, .int .i64 i1)], [(0, .box [.int .i64 o02, .int .i64 o03, .int .i64 o04, .arr (.vecs 287 3 o05), .arr (.ints 3 .i64 o06), .int .i64 o07, .arr (.vecs 275 3 o08), .arr (.rows 175 o09), .arr (.rows 33 o010)])]⟩ K = PM.roundF A cx (PM.runD A cx (spec_Over_E A).inl (spec_Over_E A).Γ 3) (spec_Over_E A) (spec_Over_L A n) 0 Go.Proofs.Try.f31 ⟨[(1, .pbox 0 0), (3, .int .i64 i1)], [(0, .box [.int .i64 o02, .int .i64 o03, .int .i64 o04, .arr (.vecs 287 3 o05), .arr (.ints 3 .i64 o06), .int .i64 o07, .arr (.vecs 275 3 o08), .arr (.rows 175 o09), .arr (.rows 33 o010)])]⟩ K := by kernel_rfl
theorem spec_Over_ok (A : PM.Prims) (w_Now : Int) (w_Token : Int) (w_Mem_Clock : Int) (w_Mem_Cells : List (List Int)) (w_Shelf_Slots : List Int) (w_Shelf_Count : Int) (w_Holds : List (List Int)) (w_Roots : List (List PM.C)) (w_Hist : List (List PM.C)) (k : PM.V → PM.R) : PM.pfun A cx [] (spec_Over_E A) Go.Proofs.Try.f31 [.agg [.int .i64 w_Now, .int .i64 w_Token, .int .i64 w_Mem_Clock, .arr (.vecs 287 3 w_Mem_Cells), .arr (.ints 3 .i64 w_Shelf_Slots), .int .i64 w_Shelf_Count, .arr (.vecs 275 3 w_Holds), .arr (.rows 175 w_Roots), .arr (.rows 33 w_Hist)]] k = spec_Over_f A w_Now w_Token w_Mem_Clock w_Mem_Cells w_Shelf_Slots w_Shelf_Count w_Holds w_Roots w_Hist (fun r0 => k (.bool r0)) := by kernel_rfl

theorem spec_Over_fn : PM.FnIs Try.prog 31 Try.f31 := .of Try.func31 (by kernel_rfl) (by kernel_rfl)
theorem spec_Over_g : PM.GOk Try.prog cx 31 ⟨[], spec_Over_w (spec_Over PM.std), none⟩ := by
  refine ⟨spec_Over_fn.enter, fun _ ds k r h => ?_, fun hm => absurd rfl hm, fun _ e => (by cases e)⟩
  change spec_Over_w (spec_Over PM.std) ds k = some r at h
  unfold spec_Over_w at h
  split at h
  · exact PM.pfun_ok (E := spec_Over_E PM.std) (L := fun n => spec_Over_L PM.std n) (N := PM.std.fuel) cx_ok .nil mixed .nil spec_Over_fn (by kernel_rfl) ⟨rfl, fun cur σ K => by
      dsimp only [spec_Over_L]
      split <;> rfl, fun n cur σ K r h => by
      dsimp only [spec_Over_L] at h
      split at h
      · exact (spec_Over_l0_ok PM.std n _ _ _ _ _ _ _ _ _ _ K).symm.trans h
      · cases h⟩
      ((spec_Over_ok PM.std _ _ _ _ _ _ _ _ _ k).trans h)
  · cases h

abbrev impl_Over_1_T := (Int) → (Int) → (Int) → (Int) → (Int) → (Int) → (Int) → (Int) → (Int) → (Int) → (Int) → (Bool) → (List Int) → (List (List Int)) → (List (List Int)) → (List (List PM.C)) → (List (List Int)) → (List Int) → (Bool) → (Int) → (Int) → (Int) → (Int) → (Int) → (Int) → (Int) → (Int) → (Int) → (List (List Int)) → (List Int) → (Int) → (Int) → (Int) → (Bool) → (List Int) → (List (List Int)) → (List (List Int)) → (List Int) → (List (List Int)) → (List (List PM.C)) → ((Bool) → PM.R) → PM.R
noncomputable def impl_Over_1_w (c : impl_Over_1_T) (ds : List PM.V) (k : PM.V → PM.R) : PM.R :=
  match ds with
  | [.agg (.int .i64 r_Phase :: .int .i64 r_Tries :: .int .i64 r_Spare :: .int .i64 r_Pc :: .int .i64 r_Rv :: .int .i64 r_NewRv :: .int .i64 r_At :: .int .i64 r_Fate :: .int .i64 r_Stamp :: .int .i64 r_Began :: .int .i64 r_Ended :: .bool r_Doomed :: .arr (.ints 3 .i64 r_Regs) :: .arr (.vecs 161 2 r_Reads) :: .arr (.vecs 161 2 r_Writes) :: .arr (.rows 396 r_Marks) :: .arr (.vecs 399 3 r_Undos) :: .arr (.ints 3 .i64 r_Order) :: .bool r_Busy :: .int .i64 r_Probe_Cell :: .int .i64 r_Probe_Phase :: .int .i64 r_Probe_Ver :: .int .i64 r_Probe_Val :: .int .i64 r_Commit_Who :: .int .i64 r_Commit_Rv :: .int .i64 r_Commit_Phase :: .int .i64 r_Commit_At :: .int .i64 r_Commit_Wv :: .arr (.vecs 161 2 r_Commit_Puts) :: .arr (.ints 3 .i64 r_Commit_Reads) :: .int .i64 r_Fam_Rv :: .int .i64 r_Fam_Clock :: .int .i64 r_Fam_Owner :: .bool r_Fam_Lost :: .arr (.ints 3 .i64 r_Fam_Regs) :: .arr (.vecs 161 2 r_Fam_Start) :: .arr (.vecs 225 3 r_Fam_Buf) :: .arr (.ints 3 .i64 r_Fam_Order) :: .arr (.vecs 161 2 r_Fam_Reads) :: .arr (.rows 214 r_Fam_Kids) :: [])] => c r_Phase r_Tries r_Spare r_Pc r_Rv r_NewRv r_At r_Fate r_Stamp r_Began r_Ended r_Doomed r_Regs r_Reads r_Writes r_Marks r_Undos r_Order r_Busy r_Probe_Cell r_Probe_Phase r_Probe_Ver r_Probe_Val r_Commit_Who r_Commit_Rv r_Commit_Phase r_Commit_At r_Commit_Wv r_Commit_Puts r_Commit_Reads r_Fam_Rv r_Fam_Clock r_Fam_Owner r_Fam_Lost r_Fam_Regs r_Fam_Start r_Fam_Buf r_Fam_Order r_Fam_Reads r_Fam_Kids (fun r0 => k (.bool r0))
  | _ => none
noncomputable def impl_Over_1_f (A : PM.Prims) (r_Phase : Int) (r_Tries : Int) (r_Spare : Int) (r_Pc : Int) (r_Rv : Int) (r_NewRv : Int) (r_At : Int) (r_Fate : Int) (r_Stamp : Int) (r_Began : Int) (r_Ended : Int) (r_Doomed : Bool) (r_Regs : List Int) (r_Reads : List (List Int)) (r_Writes : List (List Int)) (r_Marks : List (List PM.C)) (r_Undos : List (List Int)) (r_Order : List Int) (r_Busy : Bool) (r_Probe_Cell : Int) (r_Probe_Phase : Int) (r_Probe_Ver : Int) (r_Probe_Val : Int) (r_Commit_Who : Int) (r_Commit_Rv : Int) (r_Commit_Phase : Int) (r_Commit_At : Int) (r_Commit_Wv : Int) (r_Commit_Puts : List (List Int)) (r_Commit_Reads : List Int) (r_Fam_Rv : Int) (r_Fam_Clock : Int) (r_Fam_Owner : Int) (r_Fam_Lost : Bool) (r_Fam_Regs : List Int) (r_Fam_Start : List (List Int)) (r_Fam_Buf : List (List Int)) (r_Fam_Order : List Int) (r_Fam_Reads : List (List Int)) (r_Fam_Kids : List (List PM.C)) (k : (Bool) → PM.R) : PM.R :=
  k (A.not (A.eq r_Phase 8))
noncomputable def impl_Over_1 (A : PM.Prims) : impl_Over_1_T := impl_Over_1_f A
noncomputable def impl_Over_1_L (A : PM.Prims) (n : Nat) : PM.Lam := fun cur σ K =>
  match cur, σ, K with
  | _, _, _ => none
noncomputable def impl_Over_1_E (A : PM.Prims) : PM.Env := ⟨[], [], [], [(0, [1]), (1, [2])], impl_Over_1_L A A.fuel⟩
theorem impl_Over_1_ok (A : PM.Prims) (r_Phase : Int) (r_Tries : Int) (r_Spare : Int) (r_Pc : Int) (r_Rv : Int) (r_NewRv : Int) (r_At : Int) (r_Fate : Int) (r_Stamp : Int) (r_Began : Int) (r_Ended : Int) (r_Doomed : Bool) (r_Regs : List Int) (r_Reads : List (List Int)) (r_Writes : List (List Int)) (r_Marks : List (List PM.C)) (r_Undos : List (List Int)) (r_Order : List Int) (r_Busy : Bool) (r_Probe_Cell : Int) (r_Probe_Phase : Int) (r_Probe_Ver : Int) (r_Probe_Val : Int) (r_Commit_Who : Int) (r_Commit_Rv : Int) (r_Commit_Phase : Int) (r_Commit_At : Int) (r_Commit_Wv : Int) (r_Commit_Puts : List (List Int)) (r_Commit_Reads : List Int) (r_Fam_Rv : Int) (r_Fam_Clock : Int) (r_Fam_Owner : Int) (r_Fam_Lost : Bool) (r_Fam_Regs : List Int) (r_Fam_Start : List (List Int)) (r_Fam_Buf : List (List Int)) (r_Fam_Order : List Int) (r_Fam_Reads : List (List Int)) (r_Fam_Kids : List (List PM.C)) (k : PM.V → PM.R) : PM.pfun A cx [] (impl_Over_1_E A) Go.Proofs.Try.f117 [.agg (.int .i64 r_Phase :: .int .i64 r_Tries :: .int .i64 r_Spare :: .int .i64 r_Pc :: .int .i64 r_Rv :: .int .i64 r_NewRv :: .int .i64 r_At :: .int .i64 r_Fate :: .int .i64 r_Stamp :: .int .i64 r_Began :: .int .i64 r_Ended :: .bool r_Doomed :: .arr (.ints 3 .i64 r_Regs) :: .arr (.vecs 161 2 r_Reads) :: .arr (.vecs 161 2 r_Writes) :: .arr (.rows 396 r_Marks) :: .arr (.vecs 399 3 r_Undos) :: .arr (.ints 3 .i64 r_Order) :: .bool r_Busy :: .int .i64 r_Probe_Cell :: .int .i64 r_Probe_Phase :: .int .i64 r_Probe_Ver :: .int .i64 r_Probe_Val :: .int .i64 r_Commit_Who :: .int .i64 r_Commit_Rv :: .int .i64 r_Commit_Phase :: .int .i64 r_Commit_At :: .int .i64 r_Commit_Wv :: .arr (.vecs 161 2 r_Commit_Puts) :: .arr (.ints 3 .i64 r_Commit_Reads) :: .int .i64 r_Fam_Rv :: .int .i64 r_Fam_Clock :: .int .i64 r_Fam_Owner :: .bool r_Fam_Lost :: .arr (.ints 3 .i64 r_Fam_Regs) :: .arr (.vecs 161 2 r_Fam_Start) :: .arr (.vecs 225 3 r_Fam_Buf) :: .arr (.ints 3 .i64 r_Fam_Order) :: .arr (.vecs 161 2 r_Fam_Reads) :: .arr (.rows 214 r_Fam_Kids) :: [])] k = impl_Over_1_f A r_Phase r_Tries r_Spare r_Pc r_Rv r_NewRv r_At r_Fate r_Stamp r_Began r_Ended r_Doomed r_Regs r_Reads r_Writes r_Marks r_Undos r_Order r_Busy r_Probe_Cell r_Probe_Phase r_Probe_Ver r_Probe_Val r_Commit_Who r_Commit_Rv r_Commit_Phase r_Commit_At r_Commit_Wv r_Commit_Puts r_Commit_Reads r_Fam_Rv r_Fam_Clock r_Fam_Owner r_Fam_Lost r_Fam_Regs r_Fam_Start r_Fam_Buf r_Fam_Order r_Fam_Reads r_Fam_Kids (fun r0 => k (.bool r0)) := by kernel_rfl

theorem impl_Over_1_fn : PM.FnIs Try.prog 117 Try.f117 := .of Try.func117 (by kernel_rfl) (by kernel_rfl)
theorem impl_Over_1_g : PM.GOk Try.prog cx 117 ⟨[], impl_Over_1_w (impl_Over_1 PM.std), none⟩ := by
  refine ⟨impl_Over_1_fn.enter, fun _ ds k r h => ?_, fun hm => absurd rfl hm, fun _ e => (by cases e)⟩
  change impl_Over_1_w (impl_Over_1 PM.std) ds k = some r at h
  unfold impl_Over_1_w at h
  split at h
  · exact PM.pfun_ok (E := impl_Over_1_E PM.std) (L := fun n => impl_Over_1_L PM.std n) (N := PM.std.fuel) cx_ok .nil mixed .nil impl_Over_1_fn (by kernel_rfl) ⟨rfl, fun _ _ _ => rfl, fun n cur σ K r h => by cases h⟩
      ((impl_Over_1_ok PM.std _ _ _ _ _ _ _ _ _ _ _ _ _ _ _ _ _ _ _ _ _ _ _ _ _ _ _ _ _ _ _ _ _ _ _ _ _ _ _ _ k).trans h)
  · cases h

abbrev slices_IndexFunc___impl_Root_impl_Root__T := (List (List PM.C)) → ((Int) → PM.R) → PM.R
noncomputable def slices_IndexFunc___impl_Root_impl_Root__w (c : slices_IndexFunc___impl_Root_impl_Root__T) (ds : List PM.V) (k : PM.V → PM.R) : PM.R :=
  match ds with
  | [.arr (.rows 175 s), .func 117 []] => c s (fun r0 => k (.int .i64 r0))
  | _ => none
noncomputable def slices_IndexFunc___impl_Root_impl_Root__l0 (A : PM.Prims) (c_117 : impl_Over_1_T) : Nat → (List (List C)) → (Int) → (Int) → ((Int) → PM.R) → (Unit → PM.R) → PM.R
  | 0, _, _, _, _, _ => none
  | n + 1, s1, t72, t83, kret_0, kx0_0 =>
    bif (A.lt t83 t72) then
      bif (A.inb t83 (A.rlen s1)) then
        c_117 (A.rint s1 t83 0) (A.rint s1 t83 1) (A.rint s1 t83 2) (A.rint s1 t83 3) (A.rint s1 t83 4) (A.rint s1 t83 5) (A.rint s1 t83 6) (A.rint s1 t83 7) (A.rint s1 t83 8) (A.rint s1 t83 9) (A.rint s1 t83 10) (A.rbool s1 t83 11) (A.rsi s1 t83 12) (A.rsv 2 s1 t83 13) (A.rsv 2 s1 t83 14) (A.rsr s1 t83 15) (A.rsv 3 s1 t83 16) (A.rsi s1 t83 17) (A.rbool s1 t83 18) (A.rint s1 t83 19) (A.rint s1 t83 20) (A.rint s1 t83 21) (A.rint s1 t83 22) (A.rint s1 t83 23) (A.rint s1 t83 24) (A.rint s1 t83 25) (A.rint s1 t83 26) (A.rint s1 t83 27) (A.rsv 2 s1 t83 28) (A.rsi s1 t83 29) (A.rint s1 t83 30) (A.rint s1 t83 31) (A.rint s1 t83 32) (A.rbool s1 t83 33) (A.rsi s1 t83 34) (A.rsv 2 s1 t83 35) (A.rsv 3 s1 t83 36) (A.rsi s1 t83 37) (A.rsv 2 s1 t83 38) (A.rsr s1 t83 39) (fun r4 =>
          bif r4 then
            kret_0 t83
          else
            slices_IndexFunc___impl_Root_impl_Root__l0 A c_117 n s1 t72 (A.add .i64 t83 1) kret_0 kx0_0)
      else
        none
    else
      kx0_0 ()
noncomputable def slices_IndexFunc___impl_Root_impl_Root__f (A : PM.Prims) (c_117 : impl_Over_1_T) (s : List (List PM.C)) (k : (Int) → PM.R) : PM.R :=
  slices_IndexFunc___impl_Root_impl_Root__l0 A c_117 A.fuel s (A.rlen s) 0 (fun t456 =>
    k t456) (fun _ =>
    k (-1))
noncomputable def slices_IndexFunc___impl_Root_impl_Root_ (A : PM.Prims) : slices_IndexFunc___impl_Root_impl_Root__T := slices_IndexFunc___impl_Root_impl_Root__f A (impl_Over_1 A)
noncomputable def slices_IndexFunc___impl_Root_impl_Root__L (A : PM.Prims) (c_117 : impl_Over_1_T) (n : Nat) : PM.Lam := fun cur σ K =>
  match cur, σ, K with
  | 0, ⟨[(0, .arr (.rows 175 s1)), (1, .func 117 []), (7, .int .i64 t72), (8, .int .i64 t83)], []⟩, K => slices_IndexFunc___impl_Root_impl_Root__l0 A c_117 n s1 t72 t83 (fun t45 => K .ret ⟨[(4, .int .i64 t45)], []⟩) (fun _ => K (.exit 0) ⟨[], []⟩)
  | _, _, _ => none
noncomputable def slices_IndexFunc___impl_Root_impl_Root__E (A : PM.Prims) (c_117 : impl_Over_1_T) : PM.Env := ⟨[(117, ⟨[], impl_Over_1_w c_117, none⟩)], [], [(0, [0, 1, 7, 8], [4])], [(0, [0, 1]), (1, [0, 1, 7, 8]), (2, [0, 1, 7, 8, 9]), (3, [0, 1, 5, 7, 8]), (4, [0, 1, 5, 7, 8, 16]), (5, [4]), (6, [0, 1, 7, 8]), (7, [4])], slices_IndexFunc___impl_Root_impl_Root__L A c_117 A.fuel⟩
theorem slices_IndexFunc___impl_Root_impl_Root__l0_ok (A : PM.Prims) (c_117 : impl_Over_1_T) (n : Nat) (s1 : List (List C)) (t72 : Int) (t83 : Int) (K : Go.Exit → PM.S → PM.R) : slices_IndexFunc___impl_Root_impl_Root__L A c_117 (n + 1) 0 ⟨[(0, .arr (.rows 175 s1)), (1, .func 117 []), (7, .int .i64 t72), (8, .int .i64 t83)], []⟩ K = PM.roundF A cx (PM.runD A cx (slices_IndexFunc___impl_Root_impl_Root__E A c_117).inl (slices_IndexFunc___impl_Root_impl_Root__E A c_117).Γ 3) (slices_IndexFunc___impl_Root_impl_Root__E A c_117) (slices_IndexFunc___impl_Root_impl_Root__L A c_117 n) 0 Go.Proofs.Try.f204 ⟨[(0, .arr (.rows 175 s1)), (1, .func 117 []), (7, .int .i64 t72), (8, .int .i64 t83)], []⟩ K := by kernel_rfl
theorem slices_IndexFunc___impl_Root_impl_Root__ok (A : PM.Prims) (c_117 : impl_Over_1_T) (s : List (List PM.C)) (k : PM.V → PM.R) : PM.pfun A cx [] (slices_IndexFunc___impl_Root_impl_Root__E A c_117) Go.Proofs.Try.f204 [.arr (.rows 175 s), .func 117 []] k = slices_IndexFunc___impl_Root_impl_Root__f A c_117 s (fun r0 => k (.int .i64 r0)) := by kernel_rfl

theorem slices_IndexFunc___impl_Root_impl_Root__fn : PM.FnIs Try.prog 204 Try.f204 := .of Try.func204 (by kernel_rfl) (by kernel_rfl)
theorem slices_IndexFunc___impl_Root_impl_Root__g : PM.GOk Try.prog cx 204 ⟨[], slices_IndexFunc___impl_Root_impl_Root__w (slices_IndexFunc___impl_Root_impl_Root_ PM.std), none⟩ := by
  refine ⟨slices_IndexFunc___impl_Root_impl_Root__fn.enter, fun _ ds k r h => ?_, fun hm => absurd rfl hm, fun _ e => (by cases e)⟩
  change slices_IndexFunc___impl_Root_impl_Root__w (slices_IndexFunc___impl_Root_impl_Root_ PM.std) ds k = some r at h
  unfold slices_IndexFunc___impl_Root_impl_Root__w at h
  split at h
  · exact PM.pfun_ok (E := slices_IndexFunc___impl_Root_impl_Root__E PM.std (impl_Over_1 PM.std)) (L := fun n => slices_IndexFunc___impl_Root_impl_Root__L PM.std (impl_Over_1 PM.std) n) (N := PM.std.fuel) cx_ok (.cons impl_Over_1_g .nil) mixed .nil slices_IndexFunc___impl_Root_impl_Root__fn (by kernel_rfl) ⟨rfl, fun cur σ K => by
      dsimp only [slices_IndexFunc___impl_Root_impl_Root__L]
      split <;> rfl, fun n cur σ K r h => by
      dsimp only [slices_IndexFunc___impl_Root_impl_Root__L] at h
      split at h
      · exact (slices_IndexFunc___impl_Root_impl_Root__l0_ok PM.std (impl_Over_1 PM.std) n _ _ _ K).symm.trans h
      · cases h⟩
      ((slices_IndexFunc___impl_Root_impl_Root__ok PM.std (impl_Over_1 PM.std) _ k).trans h)
  · cases h

abbrev slices_ContainsFunc___impl_Root_impl_Root__T := (List (List PM.C)) → ((Bool) → PM.R) → PM.R
noncomputable def slices_ContainsFunc___impl_Root_impl_Root__w (c : slices_ContainsFunc___impl_Root_impl_Root__T) (ds : List PM.V) (k : PM.V → PM.R) : PM.R :=
  match ds with
  | [.arr (.rows 175 s), .func 117 []] => c s (fun r0 => k (.bool r0))
  | _ => none
noncomputable def slices_ContainsFunc___impl_Root_impl_Root__f (A : PM.Prims) (c_117 : impl_Over_1_T) (c_204 : slices_IndexFunc___impl_Root_impl_Root__T) (s : List (List PM.C)) (k : (Bool) → PM.R) : PM.R :=
  c_204 s (fun r1 =>
    k (A.le 0 r1))
noncomputable def slices_ContainsFunc___impl_Root_impl_Root_ (A : PM.Prims) : slices_ContainsFunc___impl_Root_impl_Root__T := slices_ContainsFunc___impl_Root_impl_Root__f A (impl_Over_1 A) (slices_IndexFunc___impl_Root_impl_Root_ A)
noncomputable def slices_ContainsFunc___impl_Root_impl_Root__L (A : PM.Prims) (c_117 : impl_Over_1_T) (c_204 : slices_IndexFunc___impl_Root_impl_Root__T) (n : Nat) : PM.Lam := fun cur σ K =>
  match cur, σ, K with
  | _, _, _ => none
noncomputable def slices_ContainsFunc___impl_Root_impl_Root__E (A : PM.Prims) (c_117 : impl_Over_1_T) (c_204 : slices_IndexFunc___impl_Root_impl_Root__T) : PM.Env := ⟨[(117, ⟨[], impl_Over_1_w c_117, none⟩), (204, ⟨[], slices_IndexFunc___impl_Root_impl_Root__w c_204, none⟩)], [], [], [(0, [0, 1]), (1, [4])], slices_ContainsFunc___impl_Root_impl_Root__L A c_117 c_204 A.fuel⟩
theorem slices_ContainsFunc___impl_Root_impl_Root__ok (A : PM.Prims) (c_117 : impl_Over_1_T) (c_204 : slices_IndexFunc___impl_Root_impl_Root__T) (s : List (List PM.C)) (k : PM.V → PM.R) : PM.pfun A cx [] (slices_ContainsFunc___impl_Root_impl_Root__E A c_117 c_204) Go.Proofs.Try.f116 [.arr (.rows 175 s), .func 117 []] k = slices_ContainsFunc___impl_Root_impl_Root__f A c_117 c_204 s (fun r0 => k (.bool r0)) := by kernel_rfl

theorem slices_ContainsFunc___impl_Root_impl_Root__fn : PM.FnIs Try.prog 116 Try.f116 := .of Try.func116 (by kernel_rfl) (by kernel_rfl)
theorem slices_ContainsFunc___impl_Root_impl_Root__g : PM.GOk Try.prog cx 116 ⟨[], slices_ContainsFunc___impl_Root_impl_Root__w (slices_ContainsFunc___impl_Root_impl_Root_ PM.std), none⟩ := by
  refine ⟨slices_ContainsFunc___impl_Root_impl_Root__fn.enter, fun _ ds k r h => ?_, fun hm => absurd rfl hm, fun _ e => (by cases e)⟩
  change slices_ContainsFunc___impl_Root_impl_Root__w (slices_ContainsFunc___impl_Root_impl_Root_ PM.std) ds k = some r at h
  unfold slices_ContainsFunc___impl_Root_impl_Root__w at h
  split at h
  · exact PM.pfun_ok (E := slices_ContainsFunc___impl_Root_impl_Root__E PM.std (impl_Over_1 PM.std) (slices_IndexFunc___impl_Root_impl_Root_ PM.std)) (L := fun n => slices_ContainsFunc___impl_Root_impl_Root__L PM.std (impl_Over_1 PM.std) (slices_IndexFunc___impl_Root_impl_Root_ PM.std) n) (N := PM.std.fuel) cx_ok (.cons impl_Over_1_g (.cons slices_IndexFunc___impl_Root_impl_Root__g .nil)) mixed .nil slices_ContainsFunc___impl_Root_impl_Root__fn (by kernel_rfl) ⟨rfl, fun _ _ _ => rfl, fun n cur σ K r h => by cases h⟩
      ((slices_ContainsFunc___impl_Root_impl_Root__ok PM.std (impl_Over_1 PM.std) (slices_IndexFunc___impl_Root_impl_Root_ PM.std) _ k).trans h)
  · cases h

abbrev impl_Over_T := (Int) → (Int) → (Int) → (List (List Int)) → (List Int) → (Int) → (List (List Int)) → (List (List PM.C)) → (List (List PM.C)) → ((Bool) → PM.R) → PM.R
noncomputable def impl_Over_w (c : impl_Over_T) (ds : List PM.V) (k : PM.V → PM.R) : PM.R :=
  match ds with
  | [.agg [.int .i64 w_Now, .int .i64 w_Token, .int .i64 w_Mem_Clock, .arr (.vecs 287 3 w_Mem_Cells), .arr (.ints 3 .i64 w_Shelf_Slots), .int .i64 w_Shelf_Count, .arr (.vecs 275 3 w_Holds), .arr (.rows 175 w_Roots), .arr (.rows 33 w_Hist)]] => c w_Now w_Token w_Mem_Clock w_Mem_Cells w_Shelf_Slots w_Shelf_Count w_Holds w_Roots w_Hist (fun r0 => k (.bool r0))
  | _ => none
noncomputable def impl_Over_f (A : PM.Prims) (c_116 : slices_ContainsFunc___impl_Root_impl_Root__T) (w_Now : Int) (w_Token : Int) (w_Mem_Clock : Int) (w_Mem_Cells : List (List Int)) (w_Shelf_Slots : List Int) (w_Shelf_Count : Int) (w_Holds : List (List Int)) (w_Roots : List (List PM.C)) (w_Hist : List (List PM.C)) (k : (Bool) → PM.R) : PM.R :=
  c_116 w_Roots (fun r1 =>
    k (A.not r1))
noncomputable def impl_Over (A : PM.Prims) : impl_Over_T := impl_Over_f A (slices_ContainsFunc___impl_Root_impl_Root_ A)
noncomputable def impl_Over_L (A : PM.Prims) (c_116 : slices_ContainsFunc___impl_Root_impl_Root__T) (n : Nat) : PM.Lam := fun cur σ K =>
  match cur, σ, K with
  | _, _, _ => none
noncomputable def impl_Over_E (A : PM.Prims) (c_116 : slices_ContainsFunc___impl_Root_impl_Root__T) : PM.Env := ⟨[(116, ⟨[], slices_ContainsFunc___impl_Root_impl_Root__w c_116, none⟩)], [], [], [(0, [1]), (1, [2])], impl_Over_L A c_116 A.fuel⟩
theorem impl_Over_ok (A : PM.Prims) (c_116 : slices_ContainsFunc___impl_Root_impl_Root__T) (w_Now : Int) (w_Token : Int) (w_Mem_Clock : Int) (w_Mem_Cells : List (List Int)) (w_Shelf_Slots : List Int) (w_Shelf_Count : Int) (w_Holds : List (List Int)) (w_Roots : List (List PM.C)) (w_Hist : List (List PM.C)) (k : PM.V → PM.R) : PM.pfun A cx [] (impl_Over_E A c_116) Go.Proofs.Try.f33 [.agg [.int .i64 w_Now, .int .i64 w_Token, .int .i64 w_Mem_Clock, .arr (.vecs 287 3 w_Mem_Cells), .arr (.ints 3 .i64 w_Shelf_Slots), .int .i64 w_Shelf_Count, .arr (.vecs 275 3 w_Holds), .arr (.rows 175 w_Roots), .arr (.rows 33 w_Hist)]] k = impl_Over_f A c_116 w_Now w_Token w_Mem_Clock w_Mem_Cells w_Shelf_Slots w_Shelf_Count w_Holds w_Roots w_Hist (fun r0 => k (.bool r0)) := by kernel_rfl

theorem impl_Over_fn : PM.FnIs Try.prog 33 Try.f33 := .of Try.func33 (by kernel_rfl) (by kernel_rfl)
theorem impl_Over_g : PM.GOk Try.prog cx 33 ⟨[], impl_Over_w (impl_Over PM.std), none⟩ := by
  refine ⟨impl_Over_fn.enter, fun _ ds k r h => ?_, fun hm => absurd rfl hm, fun _ e => (by cases e)⟩
  change impl_Over_w (impl_Over PM.std) ds k = some r at h
  unfold impl_Over_w at h
  split at h
  · exact PM.pfun_ok (E := impl_Over_E PM.std (slices_ContainsFunc___impl_Root_impl_Root_ PM.std)) (L := fun n => impl_Over_L PM.std (slices_ContainsFunc___impl_Root_impl_Root_ PM.std) n) (N := PM.std.fuel) cx_ok (.cons slices_ContainsFunc___impl_Root_impl_Root__g .nil) mixed .nil impl_Over_fn (by kernel_rfl) ⟨rfl, fun _ _ _ => rfl, fun n cur σ K r h => by cases h⟩
      ((impl_Over_ok PM.std (slices_ContainsFunc___impl_Root_impl_Root_ PM.std) _ _ _ _ _ _ _ _ _ k).trans h)
  · cases h

abbrev laws_eqWord_T := (Int) → (Int) → (Int) → (Int) → (Int) → (Int) → ((Bool) → PM.R) → PM.R
noncomputable def laws_eqWord_w (c : laws_eqWord_T) (ds : List PM.V) (k : PM.V → PM.R) : PM.R :=
  match ds with
  | [.agg [.int .i64 a_Val, .int .i64 a_Ver, .int .i64 a_Owner], .agg [.int .i64 b_Val, .int .i64 b_Ver, .int .i64 b_Owner]] => c a_Val a_Ver a_Owner b_Val b_Ver b_Owner (fun r0 => k (.bool r0))
  | _ => none
noncomputable def laws_eqWord_f (A : PM.Prims) (a_Val : Int) (a_Ver : Int) (a_Owner : Int) (b_Val : Int) (b_Ver : Int) (b_Owner : Int) (k : (Bool) → PM.R) : PM.R :=
  bif (A.not (A.eq a_Val b_Val)) then
    k false
  else
    bif (A.not (A.eq a_Ver b_Ver)) then
      k false
    else
      bif (A.not (A.eq a_Owner b_Owner)) then
        k false
      else
        k true
noncomputable def laws_eqWord (A : PM.Prims) : laws_eqWord_T := laws_eqWord_f A
noncomputable def laws_eqWord_L (A : PM.Prims) (n : Nat) : PM.Lam := fun cur σ K =>
  match cur, σ, K with
  | _, _, _ => none
noncomputable def laws_eqWord_E (A : PM.Prims) : PM.Env := ⟨[], [], [], [(0, [2, 3]), (1, [2, 3, 9]), (2, [4]), (3, [2, 3, 14]), (4, [4]), (5, [19]), (6, [4]), (7, [4])], laws_eqWord_L A A.fuel⟩
theorem laws_eqWord_ok (A : PM.Prims) (a_Val : Int) (a_Ver : Int) (a_Owner : Int) (b_Val : Int) (b_Ver : Int) (b_Owner : Int) (k : PM.V → PM.R) : PM.pfun A cx [] (laws_eqWord_E A) Go.Proofs.Try.f271 [.agg [.int .i64 a_Val, .int .i64 a_Ver, .int .i64 a_Owner], .agg [.int .i64 b_Val, .int .i64 b_Ver, .int .i64 b_Owner]] k = laws_eqWord_f A a_Val a_Ver a_Owner b_Val b_Ver b_Owner (fun r0 => k (.bool r0)) := by kernel_rfl

theorem laws_eqWord_fn : PM.FnIs Try.prog 271 Try.f271 := .of Try.func271 (by kernel_rfl) (by kernel_rfl)
theorem laws_eqWord_g : PM.GOk Try.prog cx 271 ⟨[], laws_eqWord_w (laws_eqWord PM.std), none⟩ := by
  refine ⟨laws_eqWord_fn.enter, fun _ ds k r h => ?_, fun hm => absurd rfl hm, fun _ e => (by cases e)⟩
  change laws_eqWord_w (laws_eqWord PM.std) ds k = some r at h
  unfold laws_eqWord_w at h
  split at h
  · exact PM.pfun_ok (E := laws_eqWord_E PM.std) (L := fun n => laws_eqWord_L PM.std n) (N := PM.std.fuel) cx_ok .nil mixed .nil laws_eqWord_fn (by kernel_rfl) ⟨rfl, fun _ _ _ => rfl, fun n cur σ K r h => by cases h⟩
      ((laws_eqWord_ok PM.std _ _ _ _ _ _ k).trans h)
  · cases h

abbrev laws_eqWordS_T := (List (List Int)) → (List (List Int)) → ((Bool) → PM.R) → PM.R
noncomputable def laws_eqWordS_w (c : laws_eqWordS_T) (ds : List PM.V) (k : PM.V → PM.R) : PM.R :=
  match ds with
  | [.arr (.vecs 287 3 a), .arr (.vecs 287 3 b)] => c a b (fun r0 => k (.bool r0))
  | _ => none
noncomputable def laws_eqWordS_l0 (A : PM.Prims) (c_271 : laws_eqWord_T) : Nat → (List (List Int)) → (List (List Int)) → (Int) → ((Bool) → PM.R) → (Unit → PM.R) → PM.R
  | 0, _, _, _, _, _ => none
  | n + 1, a1, b2, i3, kret_0, kx0_0 =>
    bif (A.lt i3 (A.vlen a1)) then
      bif (A.inb i3 (A.vlen a1)) then
        bif (A.inb i3 (A.vlen b2)) then
          c_271 (A.vget a1 i3 0) (A.vget a1 i3 1) (A.vget a1 i3 2) (A.vget b2 i3 0) (A.vget b2 i3 1) (A.vget b2 i3 2) (fun r4 =>
            bif (A.not r4) then
              kret_0 false
            else
              laws_eqWordS_l0 A c_271 n a1 b2 (A.add .i64 i3 1) kret_0 kx0_0)
        else
          none
      else
        none
    else
      kx0_0 ()
noncomputable def laws_eqWordS_f (A : PM.Prims) (c_271 : laws_eqWord_T) (a : List (List Int)) (b : List (List Int)) (k : (Bool) → PM.R) : PM.R :=
  bif (A.not (A.eq (A.vlen a) (A.vlen b))) then
    k false
  else
    laws_eqWordS_l0 A c_271 A.fuel a b 0 (fun t456 =>
      k t456) (fun _ =>
      k true)
noncomputable def laws_eqWordS (A : PM.Prims) : laws_eqWordS_T := laws_eqWordS_f A (laws_eqWord A)
noncomputable def laws_eqWordS_L (A : PM.Prims) (c_271 : laws_eqWord_T) (n : Nat) : PM.Lam := fun cur σ K =>
  match cur, σ, K with
  | 0, ⟨[(0, .arr (.vecs 287 3 a1)), (1, .arr (.vecs 287 3 b2)), (5, .int .i64 i3)], []⟩, K => laws_eqWordS_l0 A c_271 n a1 b2 i3 (fun t45 => K .ret ⟨[(4, .bool t45)], []⟩) (fun _ => K (.exit 0) ⟨[], []⟩)
  | _, _, _ => none
noncomputable def laws_eqWordS_E (A : PM.Prims) (c_271 : laws_eqWord_T) : PM.Env := ⟨[(271, ⟨[], laws_eqWord_w c_271, none⟩)], [], [(0, [0, 1, 5], [4])], [(0, [0, 1]), (1, [0, 1, 10]), (2, [4]), (3, [0, 1, 5]), (4, [0, 1, 5, 14]), (5, [0, 1, 5]), (6, [0, 1, 5, 26]), (7, [4]), (8, [4])], laws_eqWordS_L A c_271 A.fuel⟩
theorem laws_eqWordS_l0_ok (A : PM.Prims) (c_271 : laws_eqWord_T) (n : Nat) (a1 : List (List Int)) (b2 : List (List Int)) (i3 : Int) (K : Go.Exit → PM.S → PM.R) : laws_eqWordS_L A c_271 (n + 1) 0 ⟨[(0, .arr (.vecs 287 3 a1)), (1, .arr (.vecs 287 3 b2)), (5, .int .i64 i3)], []⟩ K = PM.roundF A cx (PM.runD A cx (laws_eqWordS_E A c_271).inl (laws_eqWordS_E A c_271).Γ 3) (laws_eqWordS_E A c_271) (laws_eqWordS_L A c_271 n) 0 Go.Proofs.Try.f205 ⟨[(0, .arr (.vecs 287 3 a1)), (1, .arr (.vecs 287 3 b2)), (5, .int .i64 i3)], []⟩ K := by kernel_rfl
theorem laws_eqWordS_ok (A : PM.Prims) (c_271 : laws_eqWord_T) (a : List (List Int)) (b : List (List Int)) (k : PM.V → PM.R) : PM.pfun A cx [] (laws_eqWordS_E A c_271) Go.Proofs.Try.f205 [.arr (.vecs 287 3 a), .arr (.vecs 287 3 b)] k = laws_eqWordS_f A c_271 a b (fun r0 => k (.bool r0)) := by kernel_rfl

theorem laws_eqWordS_fn : PM.FnIs Try.prog 205 Try.f205 := .of Try.func205 (by kernel_rfl) (by kernel_rfl)
theorem laws_eqWordS_g : PM.GOk Try.prog cx 205 ⟨[], laws_eqWordS_w (laws_eqWordS PM.std), none⟩ := by
  refine ⟨laws_eqWordS_fn.enter, fun _ ds k r h => ?_, fun hm => absurd rfl hm, fun _ e => (by cases e)⟩
  change laws_eqWordS_w (laws_eqWordS PM.std) ds k = some r at h
  unfold laws_eqWordS_w at h
  split at h
  · exact PM.pfun_ok (E := laws_eqWordS_E PM.std (laws_eqWord PM.std)) (L := fun n => laws_eqWordS_L PM.std (laws_eqWord PM.std) n) (N := PM.std.fuel) cx_ok (.cons laws_eqWord_g .nil) mixed .nil laws_eqWordS_fn (by kernel_rfl) ⟨rfl, fun cur σ K => by
      dsimp only [laws_eqWordS_L]
      split <;> rfl, fun n cur σ K r h => by
      dsimp only [laws_eqWordS_L] at h
      split at h
      · exact (laws_eqWordS_l0_ok PM.std (laws_eqWord PM.std) n _ _ _ K).symm.trans h
      · cases h⟩
      ((laws_eqWordS_ok PM.std (laws_eqWord PM.std) _ _ k).trans h)
  · cases h

abbrev laws_eqMem_T := (Int) → (List (List Int)) → (Int) → (List (List Int)) → ((Bool) → PM.R) → PM.R
noncomputable def laws_eqMem_w (c : laws_eqMem_T) (ds : List PM.V) (k : PM.V → PM.R) : PM.R :=
  match ds with
  | [.agg [.int .i64 a_Clock, .arr (.vecs 287 3 a_Cells)], .agg [.int .i64 b_Clock, .arr (.vecs 287 3 b_Cells)]] => c a_Clock a_Cells b_Clock b_Cells (fun r0 => k (.bool r0))
  | _ => none
noncomputable def laws_eqMem_f (A : PM.Prims) (c_205 : laws_eqWordS_T) (a_Clock : Int) (a_Cells : List (List Int)) (b_Clock : Int) (b_Cells : List (List Int)) (k : (Bool) → PM.R) : PM.R :=
  bif (A.not (A.eq a_Clock b_Clock)) then
    k false
  else
    c_205 a_Cells b_Cells (fun r1 =>
      bif (A.not r1) then
        k false
      else
        k true)
noncomputable def laws_eqMem (A : PM.Prims) : laws_eqMem_T := laws_eqMem_f A (laws_eqWordS A)
noncomputable def laws_eqMem_L (A : PM.Prims) (c_205 : laws_eqWordS_T) (n : Nat) : PM.Lam := fun cur σ K =>
  match cur, σ, K with
  | _, _, _ => none
noncomputable def laws_eqMem_E (A : PM.Prims) (c_205 : laws_eqWordS_T) : PM.Env := ⟨[(205, ⟨[], laws_eqWordS_w c_205, none⟩)], [], [], [(0, [2, 3]), (1, [2, 3, 9]), (2, [4]), (3, [15]), (4, [4]), (5, [4])], laws_eqMem_L A c_205 A.fuel⟩
theorem laws_eqMem_ok (A : PM.Prims) (c_205 : laws_eqWordS_T) (a_Clock : Int) (a_Cells : List (List Int)) (b_Clock : Int) (b_Cells : List (List Int)) (k : PM.V → PM.R) : PM.pfun A cx [] (laws_eqMem_E A c_205) Go.Proofs.Try.f118 [.agg [.int .i64 a_Clock, .arr (.vecs 287 3 a_Cells)], .agg [.int .i64 b_Clock, .arr (.vecs 287 3 b_Cells)]] k = laws_eqMem_f A c_205 a_Clock a_Cells b_Clock b_Cells (fun r0 => k (.bool r0)) := by kernel_rfl

theorem laws_eqMem_fn : PM.FnIs Try.prog 118 Try.f118 := .of Try.func118 (by kernel_rfl) (by kernel_rfl)
theorem laws_eqMem_g : PM.GOk Try.prog cx 118 ⟨[], laws_eqMem_w (laws_eqMem PM.std), none⟩ := by
  refine ⟨laws_eqMem_fn.enter, fun _ ds k r h => ?_, fun hm => absurd rfl hm, fun _ e => (by cases e)⟩
  change laws_eqMem_w (laws_eqMem PM.std) ds k = some r at h
  unfold laws_eqMem_w at h
  split at h
  · exact PM.pfun_ok (E := laws_eqMem_E PM.std (laws_eqWordS PM.std)) (L := fun n => laws_eqMem_L PM.std (laws_eqWordS PM.std) n) (N := PM.std.fuel) cx_ok (.cons laws_eqWordS_g .nil) mixed .nil laws_eqMem_fn (by kernel_rfl) ⟨rfl, fun _ _ _ => rfl, fun n cur σ K r h => by cases h⟩
      ((laws_eqMem_ok PM.std (laws_eqWordS PM.std) _ _ _ _ k).trans h)
  · cases h

abbrev laws_eqIntS_T := (List Int) → (List Int) → ((Bool) → PM.R) → PM.R
noncomputable def laws_eqIntS_w (c : laws_eqIntS_T) (ds : List PM.V) (k : PM.V → PM.R) : PM.R :=
  match ds with
  | [.arr (.ints 3 .i64 a), .arr (.ints 3 .i64 b)] => c a b (fun r0 => k (.bool r0))
  | _ => none
noncomputable def laws_eqIntS_l0 (A : PM.Prims) : Nat → (List Int) → (List Int) → (Int) → ((Bool) → PM.R) → (Unit → PM.R) → PM.R
  | 0, _, _, _, _, _ => none
  | n + 1, a1, b2, i3, kret_0, kx0_0 =>
    bif (A.lt i3 (A.ilen a1)) then
      bif (A.inb i3 (A.ilen a1)) then
        bif (A.inb i3 (A.ilen b2)) then
          bif (A.not (A.eq (A.iget a1 i3) (A.iget b2 i3))) then
            kret_0 false
          else
            laws_eqIntS_l0 A n a1 b2 (A.add .i64 i3 1) kret_0 kx0_0
        else
          none
      else
        none
    else
      kx0_0 ()
noncomputable def laws_eqIntS_f (A : PM.Prims) (a : List Int) (b : List Int) (k : (Bool) → PM.R) : PM.R :=
  bif (A.not (A.eq (A.ilen a) (A.ilen b))) then
    k false
  else
    laws_eqIntS_l0 A A.fuel a b 0 (fun t445 =>
      k t445) (fun _ =>
      k true)
noncomputable def laws_eqIntS (A : PM.Prims) : laws_eqIntS_T := laws_eqIntS_f A
noncomputable def laws_eqIntS_L (A : PM.Prims) (n : Nat) : PM.Lam := fun cur σ K =>
  match cur, σ, K with
  | 0, ⟨[(0, .arr (.ints 3 .i64 a1)), (1, .arr (.ints 3 .i64 b2)), (5, .int .i64 i3)], []⟩, K => laws_eqIntS_l0 A n a1 b2 i3 (fun t44 => K .ret ⟨[(4, .bool t44)], []⟩) (fun _ => K (.exit 0) ⟨[], []⟩)
  | _, _, _ => none
noncomputable def laws_eqIntS_E (A : PM.Prims) : PM.Env := ⟨[], [], [(0, [0, 1, 5], [4])], [(0, [0, 1]), (1, [0, 1, 10]), (2, [4]), (3, [0, 1, 5]), (4, [0, 1, 5, 14]), (5, [0, 1, 5]), (6, [0, 1, 5, 25]), (7, [4]), (8, [4])], laws_eqIntS_L A A.fuel⟩
theorem laws_eqIntS_l0_ok (A : PM.Prims) (n : Nat) (a1 : List Int) (b2 : List Int) (i3 : Int) (K : Go.Exit → PM.S → PM.R) : laws_eqIntS_L A (n + 1) 0 ⟨[(0, .arr (.ints 3 .i64 a1)), (1, .arr (.ints 3 .i64 b2)), (5, .int .i64 i3)], []⟩ K = PM.roundF A cx (PM.runD A cx (laws_eqIntS_E A).inl (laws_eqIntS_E A).Γ 3) (laws_eqIntS_E A) (laws_eqIntS_L A n) 0 Go.Proofs.Try.f40 ⟨[(0, .arr (.ints 3 .i64 a1)), (1, .arr (.ints 3 .i64 b2)), (5, .int .i64 i3)], []⟩ K := by kernel_rfl
theorem laws_eqIntS_ok (A : PM.Prims) (a : List Int) (b : List Int) (k : PM.V → PM.R) : PM.pfun A cx [] (laws_eqIntS_E A) Go.Proofs.Try.f40 [.arr (.ints 3 .i64 a), .arr (.ints 3 .i64 b)] k = laws_eqIntS_f A a b (fun r0 => k (.bool r0)) := by kernel_rfl

theorem laws_eqIntS_fn : PM.FnIs Try.prog 40 Try.f40 := .of Try.func40 (by kernel_rfl) (by kernel_rfl)
theorem laws_eqIntS_g : PM.GOk Try.prog cx 40 ⟨[], laws_eqIntS_w (laws_eqIntS PM.std), none⟩ := by
  refine ⟨laws_eqIntS_fn.enter, fun _ ds k r h => ?_, fun hm => absurd rfl hm, fun _ e => (by cases e)⟩
  change laws_eqIntS_w (laws_eqIntS PM.std) ds k = some r at h
  unfold laws_eqIntS_w at h
  split at h
  · exact PM.pfun_ok (E := laws_eqIntS_E PM.std) (L := fun n => laws_eqIntS_L PM.std n) (N := PM.std.fuel) cx_ok .nil mixed .nil laws_eqIntS_fn (by kernel_rfl) ⟨rfl, fun cur σ K => by
      dsimp only [laws_eqIntS_L]
      split <;> rfl, fun n cur σ K r h => by
      dsimp only [laws_eqIntS_L] at h
      split at h
      · exact (laws_eqIntS_l0_ok PM.std n _ _ _ K).symm.trans h
      · cases h⟩
      ((laws_eqIntS_ok PM.std _ _ k).trans h)
  · cases h

abbrev laws_eqShelf_T := (List Int) → (Int) → (List Int) → (Int) → ((Bool) → PM.R) → PM.R
noncomputable def laws_eqShelf_w (c : laws_eqShelf_T) (ds : List PM.V) (k : PM.V → PM.R) : PM.R :=
  match ds with
  | [.agg [.arr (.ints 3 .i64 a_Slots), .int .i64 a_Count], .agg [.arr (.ints 3 .i64 b_Slots), .int .i64 b_Count]] => c a_Slots a_Count b_Slots b_Count (fun r0 => k (.bool r0))
  | _ => none
noncomputable def laws_eqShelf_f (A : PM.Prims) (c_40 : laws_eqIntS_T) (a_Slots : List Int) (a_Count : Int) (b_Slots : List Int) (b_Count : Int) (k : (Bool) → PM.R) : PM.R :=
  c_40 a_Slots b_Slots (fun r1 =>
    bif (A.not r1) then
      k false
    else
      bif (A.not (A.eq a_Count b_Count)) then
        k false
      else
        k true)
noncomputable def laws_eqShelf (A : PM.Prims) : laws_eqShelf_T := laws_eqShelf_f A (laws_eqIntS A)
noncomputable def laws_eqShelf_L (A : PM.Prims) (c_40 : laws_eqIntS_T) (n : Nat) : PM.Lam := fun cur σ K =>
  match cur, σ, K with
  | _, _, _ => none
noncomputable def laws_eqShelf_E (A : PM.Prims) (c_40 : laws_eqIntS_T) : PM.Env := ⟨[(40, ⟨[], laws_eqIntS_w c_40, none⟩)], [], [], [(0, [2, 3]), (1, [2, 3, 10]), (2, [4]), (3, [15]), (4, [4]), (5, [4])], laws_eqShelf_L A c_40 A.fuel⟩
theorem laws_eqShelf_ok (A : PM.Prims) (c_40 : laws_eqIntS_T) (a_Slots : List Int) (a_Count : Int) (b_Slots : List Int) (b_Count : Int) (k : PM.V → PM.R) : PM.pfun A cx [] (laws_eqShelf_E A c_40) Go.Proofs.Try.f119 [.agg [.arr (.ints 3 .i64 a_Slots), .int .i64 a_Count], .agg [.arr (.ints 3 .i64 b_Slots), .int .i64 b_Count]] k = laws_eqShelf_f A c_40 a_Slots a_Count b_Slots b_Count (fun r0 => k (.bool r0)) := by kernel_rfl

theorem laws_eqShelf_fn : PM.FnIs Try.prog 119 Try.f119 := .of Try.func119 (by kernel_rfl) (by kernel_rfl)
theorem laws_eqShelf_g : PM.GOk Try.prog cx 119 ⟨[], laws_eqShelf_w (laws_eqShelf PM.std), none⟩ := by
  refine ⟨laws_eqShelf_fn.enter, fun _ ds k r h => ?_, fun hm => absurd rfl hm, fun _ e => (by cases e)⟩
  change laws_eqShelf_w (laws_eqShelf PM.std) ds k = some r at h
  unfold laws_eqShelf_w at h
  split at h
  · exact PM.pfun_ok (E := laws_eqShelf_E PM.std (laws_eqIntS PM.std)) (L := fun n => laws_eqShelf_L PM.std (laws_eqIntS PM.std) n) (N := PM.std.fuel) cx_ok (.cons laws_eqIntS_g .nil) mixed .nil laws_eqShelf_fn (by kernel_rfl) ⟨rfl, fun _ _ _ => rfl, fun n cur σ K r h => by cases h⟩
      ((laws_eqShelf_ok PM.std (laws_eqIntS PM.std) _ _ _ _ k).trans h)
  · cases h

abbrev laws_eqHold_T := (Int) → (Int) → (Int) → (Int) → (Int) → (Int) → ((Bool) → PM.R) → PM.R
noncomputable def laws_eqHold_w (c : laws_eqHold_T) (ds : List PM.V) (k : PM.V → PM.R) : PM.R :=
  match ds with
  | [.agg [.int .i64 a_Who, .int .i64 a_What, .int .i64 a_Mode], .agg [.int .i64 b_Who, .int .i64 b_What, .int .i64 b_Mode]] => c a_Who a_What a_Mode b_Who b_What b_Mode (fun r0 => k (.bool r0))
  | _ => none
noncomputable def laws_eqHold_f (A : PM.Prims) (a_Who : Int) (a_What : Int) (a_Mode : Int) (b_Who : Int) (b_What : Int) (b_Mode : Int) (k : (Bool) → PM.R) : PM.R :=
  bif (A.not (A.eq a_Who b_Who)) then
    k false
  else
    bif (A.not (A.eq a_What b_What)) then
      k false
    else
      bif (A.not (A.eq a_Mode b_Mode)) then
        k false
      else
        k true
noncomputable def laws_eqHold (A : PM.Prims) : laws_eqHold_T := laws_eqHold_f A
noncomputable def laws_eqHold_L (A : PM.Prims) (n : Nat) : PM.Lam := fun cur σ K =>
  match cur, σ, K with
  | _, _, _ => none
noncomputable def laws_eqHold_E (A : PM.Prims) : PM.Env := ⟨[], [], [], [(0, [2, 3]), (1, [2, 3, 9]), (2, [4]), (3, [2, 3, 14]), (4, [4]), (5, [19]), (6, [4]), (7, [4])], laws_eqHold_L A A.fuel⟩
theorem laws_eqHold_ok (A : PM.Prims) (a_Who : Int) (a_What : Int) (a_Mode : Int) (b_Who : Int) (b_What : Int) (b_Mode : Int) (k : PM.V → PM.R) : PM.pfun A cx [] (laws_eqHold_E A) Go.Proofs.Try.f206 [.agg [.int .i64 a_Who, .int .i64 a_What, .int .i64 a_Mode], .agg [.int .i64 b_Who, .int .i64 b_What, .int .i64 b_Mode]] k = laws_eqHold_f A a_Who a_What a_Mode b_Who b_What b_Mode (fun r0 => k (.bool r0)) := by kernel_rfl

theorem laws_eqHold_fn : PM.FnIs Try.prog 206 Try.f206 := .of Try.func206 (by kernel_rfl) (by kernel_rfl)
theorem laws_eqHold_g : PM.GOk Try.prog cx 206 ⟨[], laws_eqHold_w (laws_eqHold PM.std), none⟩ := by
  refine ⟨laws_eqHold_fn.enter, fun _ ds k r h => ?_, fun hm => absurd rfl hm, fun _ e => (by cases e)⟩
  change laws_eqHold_w (laws_eqHold PM.std) ds k = some r at h
  unfold laws_eqHold_w at h
  split at h
  · exact PM.pfun_ok (E := laws_eqHold_E PM.std) (L := fun n => laws_eqHold_L PM.std n) (N := PM.std.fuel) cx_ok .nil mixed .nil laws_eqHold_fn (by kernel_rfl) ⟨rfl, fun _ _ _ => rfl, fun n cur σ K r h => by cases h⟩
      ((laws_eqHold_ok PM.std _ _ _ _ _ _ k).trans h)
  · cases h

abbrev laws_eqHoldS_T := (List (List Int)) → (List (List Int)) → ((Bool) → PM.R) → PM.R
noncomputable def laws_eqHoldS_w (c : laws_eqHoldS_T) (ds : List PM.V) (k : PM.V → PM.R) : PM.R :=
  match ds with
  | [.arr (.vecs 275 3 a), .arr (.vecs 275 3 b)] => c a b (fun r0 => k (.bool r0))
  | _ => none
noncomputable def laws_eqHoldS_l0 (A : PM.Prims) (c_206 : laws_eqHold_T) : Nat → (List (List Int)) → (List (List Int)) → (Int) → ((Bool) → PM.R) → (Unit → PM.R) → PM.R
  | 0, _, _, _, _, _ => none
  | n + 1, a1, b2, i3, kret_0, kx0_0 =>
    bif (A.lt i3 (A.vlen a1)) then
      bif (A.inb i3 (A.vlen a1)) then
        bif (A.inb i3 (A.vlen b2)) then
          c_206 (A.vget a1 i3 0) (A.vget a1 i3 1) (A.vget a1 i3 2) (A.vget b2 i3 0) (A.vget b2 i3 1) (A.vget b2 i3 2) (fun r4 =>
            bif (A.not r4) then
              kret_0 false
            else
              laws_eqHoldS_l0 A c_206 n a1 b2 (A.add .i64 i3 1) kret_0 kx0_0)
        else
          none
      else
        none
    else
      kx0_0 ()
noncomputable def laws_eqHoldS_f (A : PM.Prims) (c_206 : laws_eqHold_T) (a : List (List Int)) (b : List (List Int)) (k : (Bool) → PM.R) : PM.R :=
  bif (A.not (A.eq (A.vlen a) (A.vlen b))) then
    k false
  else
    laws_eqHoldS_l0 A c_206 A.fuel a b 0 (fun t456 =>
      k t456) (fun _ =>
      k true)
noncomputable def laws_eqHoldS (A : PM.Prims) : laws_eqHoldS_T := laws_eqHoldS_f A (laws_eqHold A)
noncomputable def laws_eqHoldS_L (A : PM.Prims) (c_206 : laws_eqHold_T) (n : Nat) : PM.Lam := fun cur σ K =>
  match cur, σ, K with
  | 0, ⟨[(0, .arr (.vecs 275 3 a1)), (1, .arr (.vecs 275 3 b2)), (5, .int .i64 i3)], []⟩, K => laws_eqHoldS_l0 A c_206 n a1 b2 i3 (fun t45 => K .ret ⟨[(4, .bool t45)], []⟩) (fun _ => K (.exit 0) ⟨[], []⟩)
  | _, _, _ => none
noncomputable def laws_eqHoldS_E (A : PM.Prims) (c_206 : laws_eqHold_T) : PM.Env := ⟨[(206, ⟨[], laws_eqHold_w c_206, none⟩)], [], [(0, [0, 1, 5], [4])], [(0, [0, 1]), (1, [0, 1, 10]), (2, [4]), (3, [0, 1, 5]), (4, [0, 1, 5, 14]), (5, [0, 1, 5]), (6, [0, 1, 5, 26]), (7, [4]), (8, [4])], laws_eqHoldS_L A c_206 A.fuel⟩
theorem laws_eqHoldS_l0_ok (A : PM.Prims) (c_206 : laws_eqHold_T) (n : Nat) (a1 : List (List Int)) (b2 : List (List Int)) (i3 : Int) (K : Go.Exit → PM.S → PM.R) : laws_eqHoldS_L A c_206 (n + 1) 0 ⟨[(0, .arr (.vecs 275 3 a1)), (1, .arr (.vecs 275 3 b2)), (5, .int .i64 i3)], []⟩ K = PM.roundF A cx (PM.runD A cx (laws_eqHoldS_E A c_206).inl (laws_eqHoldS_E A c_206).Γ 3) (laws_eqHoldS_E A c_206) (laws_eqHoldS_L A c_206 n) 0 Go.Proofs.Try.f120 ⟨[(0, .arr (.vecs 275 3 a1)), (1, .arr (.vecs 275 3 b2)), (5, .int .i64 i3)], []⟩ K := by kernel_rfl
theorem laws_eqHoldS_ok (A : PM.Prims) (c_206 : laws_eqHold_T) (a : List (List Int)) (b : List (List Int)) (k : PM.V → PM.R) : PM.pfun A cx [] (laws_eqHoldS_E A c_206) Go.Proofs.Try.f120 [.arr (.vecs 275 3 a), .arr (.vecs 275 3 b)] k = laws_eqHoldS_f A c_206 a b (fun r0 => k (.bool r0)) := by kernel_rfl

theorem laws_eqHoldS_fn : PM.FnIs Try.prog 120 Try.f120 := .of Try.func120 (by kernel_rfl) (by kernel_rfl)
theorem laws_eqHoldS_g : PM.GOk Try.prog cx 120 ⟨[], laws_eqHoldS_w (laws_eqHoldS PM.std), none⟩ := by
  refine ⟨laws_eqHoldS_fn.enter, fun _ ds k r h => ?_, fun hm => absurd rfl hm, fun _ e => (by cases e)⟩
  change laws_eqHoldS_w (laws_eqHoldS PM.std) ds k = some r at h
  unfold laws_eqHoldS_w at h
  split at h
  · exact PM.pfun_ok (E := laws_eqHoldS_E PM.std (laws_eqHold PM.std)) (L := fun n => laws_eqHoldS_L PM.std (laws_eqHold PM.std) n) (N := PM.std.fuel) cx_ok (.cons laws_eqHold_g .nil) mixed .nil laws_eqHoldS_fn (by kernel_rfl) ⟨rfl, fun cur σ K => by
      dsimp only [laws_eqHoldS_L]
      split <;> rfl, fun n cur σ K r h => by
      dsimp only [laws_eqHoldS_L] at h
      split at h
      · exact (laws_eqHoldS_l0_ok PM.std (laws_eqHold PM.std) n _ _ _ K).symm.trans h
      · cases h⟩
      ((laws_eqHoldS_ok PM.std (laws_eqHold PM.std) _ _ k).trans h)
  · cases h

abbrev laws_eqRow_T := (Int) → (Int) → (Int) → (Int) → ((Bool) → PM.R) → PM.R
noncomputable def laws_eqRow_w (c : laws_eqRow_T) (ds : List PM.V) (k : PM.V → PM.R) : PM.R :=
  match ds with
  | [.agg [.int .i64 a_Cell, .int .i64 a_Val], .agg [.int .i64 b_Cell, .int .i64 b_Val]] => c a_Cell a_Val b_Cell b_Val (fun r0 => k (.bool r0))
  | _ => none
noncomputable def laws_eqRow_f (A : PM.Prims) (a_Cell : Int) (a_Val : Int) (b_Cell : Int) (b_Val : Int) (k : (Bool) → PM.R) : PM.R :=
  bif (A.not (A.eq a_Cell b_Cell)) then
    k false
  else
    bif (A.not (A.eq a_Val b_Val)) then
      k false
    else
      k true
noncomputable def laws_eqRow (A : PM.Prims) : laws_eqRow_T := laws_eqRow_f A
noncomputable def laws_eqRow_L (A : PM.Prims) (n : Nat) : PM.Lam := fun cur σ K =>
  match cur, σ, K with
  | _, _, _ => none
noncomputable def laws_eqRow_E (A : PM.Prims) : PM.Env := ⟨[], [], [], [(0, [2, 3]), (1, [2, 3, 9]), (2, [4]), (3, [14]), (4, [4]), (5, [4])], laws_eqRow_L A A.fuel⟩
theorem laws_eqRow_ok (A : PM.Prims) (a_Cell : Int) (a_Val : Int) (b_Cell : Int) (b_Val : Int) (k : PM.V → PM.R) : PM.pfun A cx [] (laws_eqRow_E A) Go.Proofs.Try.f159 [.agg [.int .i64 a_Cell, .int .i64 a_Val], .agg [.int .i64 b_Cell, .int .i64 b_Val]] k = laws_eqRow_f A a_Cell a_Val b_Cell b_Val (fun r0 => k (.bool r0)) := by kernel_rfl

theorem laws_eqRow_fn : PM.FnIs Try.prog 159 Try.f159 := .of Try.func159 (by kernel_rfl) (by kernel_rfl)
theorem laws_eqRow_g : PM.GOk Try.prog cx 159 ⟨[], laws_eqRow_w (laws_eqRow PM.std), none⟩ := by
  refine ⟨laws_eqRow_fn.enter, fun _ ds k r h => ?_, fun hm => absurd rfl hm, fun _ e => (by cases e)⟩
  change laws_eqRow_w (laws_eqRow PM.std) ds k = some r at h
  unfold laws_eqRow_w at h
  split at h
  · exact PM.pfun_ok (E := laws_eqRow_E PM.std) (L := fun n => laws_eqRow_L PM.std n) (N := PM.std.fuel) cx_ok .nil mixed .nil laws_eqRow_fn (by kernel_rfl) ⟨rfl, fun _ _ _ => rfl, fun n cur σ K r h => by cases h⟩
      ((laws_eqRow_ok PM.std _ _ _ _ k).trans h)
  · cases h

abbrev laws_eqRowS_T := (List (List Int)) → (List (List Int)) → ((Bool) → PM.R) → PM.R
noncomputable def laws_eqRowS_w (c : laws_eqRowS_T) (ds : List PM.V) (k : PM.V → PM.R) : PM.R :=
  match ds with
  | [.arr (.vecs 161 2 a), .arr (.vecs 161 2 b)] => c a b (fun r0 => k (.bool r0))
  | _ => none
noncomputable def laws_eqRowS_l0 (A : PM.Prims) (c_159 : laws_eqRow_T) : Nat → (List (List Int)) → (List (List Int)) → (Int) → ((Bool) → PM.R) → (Unit → PM.R) → PM.R
  | 0, _, _, _, _, _ => none
  | n + 1, a1, b2, i3, kret_0, kx0_0 =>
    bif (A.lt i3 (A.vlen a1)) then
      bif (A.inb i3 (A.vlen a1)) then
        bif (A.inb i3 (A.vlen b2)) then
          c_159 (A.vget a1 i3 0) (A.vget a1 i3 1) (A.vget b2 i3 0) (A.vget b2 i3 1) (fun r4 =>
            bif (A.not r4) then
              kret_0 false
            else
              laws_eqRowS_l0 A c_159 n a1 b2 (A.add .i64 i3 1) kret_0 kx0_0)
        else
          none
      else
        none
    else
      kx0_0 ()
noncomputable def laws_eqRowS_f (A : PM.Prims) (c_159 : laws_eqRow_T) (a : List (List Int)) (b : List (List Int)) (k : (Bool) → PM.R) : PM.R :=
  bif (A.not (A.eq (A.vlen a) (A.vlen b))) then
    k false
  else
    laws_eqRowS_l0 A c_159 A.fuel a b 0 (fun t456 =>
      k t456) (fun _ =>
      k true)
noncomputable def laws_eqRowS (A : PM.Prims) : laws_eqRowS_T := laws_eqRowS_f A (laws_eqRow A)
noncomputable def laws_eqRowS_L (A : PM.Prims) (c_159 : laws_eqRow_T) (n : Nat) : PM.Lam := fun cur σ K =>
  match cur, σ, K with
  | 0, ⟨[(0, .arr (.vecs 161 2 a1)), (1, .arr (.vecs 161 2 b2)), (5, .int .i64 i3)], []⟩, K => laws_eqRowS_l0 A c_159 n a1 b2 i3 (fun t45 => K .ret ⟨[(4, .bool t45)], []⟩) (fun _ => K (.exit 0) ⟨[], []⟩)
  | _, _, _ => none
noncomputable def laws_eqRowS_E (A : PM.Prims) (c_159 : laws_eqRow_T) : PM.Env := ⟨[(159, ⟨[], laws_eqRow_w c_159, none⟩)], [], [(0, [0, 1, 5], [4])], [(0, [0, 1]), (1, [0, 1, 10]), (2, [4]), (3, [0, 1, 5]), (4, [0, 1, 5, 14]), (5, [0, 1, 5]), (6, [0, 1, 5, 26]), (7, [4]), (8, [4])], laws_eqRowS_L A c_159 A.fuel⟩
theorem laws_eqRowS_l0_ok (A : PM.Prims) (c_159 : laws_eqRow_T) (n : Nat) (a1 : List (List Int)) (b2 : List (List Int)) (i3 : Int) (K : Go.Exit → PM.S → PM.R) : laws_eqRowS_L A c_159 (n + 1) 0 ⟨[(0, .arr (.vecs 161 2 a1)), (1, .arr (.vecs 161 2 b2)), (5, .int .i64 i3)], []⟩ K = PM.roundF A cx (PM.runD A cx (laws_eqRowS_E A c_159).inl (laws_eqRowS_E A c_159).Γ 3) (laws_eqRowS_E A c_159) (laws_eqRowS_L A c_159 n) 0 Go.Proofs.Try.f66 ⟨[(0, .arr (.vecs 161 2 a1)), (1, .arr (.vecs 161 2 b2)), (5, .int .i64 i3)], []⟩ K := by kernel_rfl
theorem laws_eqRowS_ok (A : PM.Prims) (c_159 : laws_eqRow_T) (a : List (List Int)) (b : List (List Int)) (k : PM.V → PM.R) : PM.pfun A cx [] (laws_eqRowS_E A c_159) Go.Proofs.Try.f66 [.arr (.vecs 161 2 a), .arr (.vecs 161 2 b)] k = laws_eqRowS_f A c_159 a b (fun r0 => k (.bool r0)) := by kernel_rfl

theorem laws_eqRowS_fn : PM.FnIs Try.prog 66 Try.f66 := .of Try.func66 (by kernel_rfl) (by kernel_rfl)
theorem laws_eqRowS_g : PM.GOk Try.prog cx 66 ⟨[], laws_eqRowS_w (laws_eqRowS PM.std), none⟩ := by
  refine ⟨laws_eqRowS_fn.enter, fun _ ds k r h => ?_, fun hm => absurd rfl hm, fun _ e => (by cases e)⟩
  change laws_eqRowS_w (laws_eqRowS PM.std) ds k = some r at h
  unfold laws_eqRowS_w at h
  split at h
  · exact PM.pfun_ok (E := laws_eqRowS_E PM.std (laws_eqRow PM.std)) (L := fun n => laws_eqRowS_L PM.std (laws_eqRow PM.std) n) (N := PM.std.fuel) cx_ok (.cons laws_eqRow_g .nil) mixed .nil laws_eqRowS_fn (by kernel_rfl) ⟨rfl, fun cur σ K => by
      dsimp only [laws_eqRowS_L]
      split <;> rfl, fun n cur σ K r h => by
      dsimp only [laws_eqRowS_L] at h
      split at h
      · exact (laws_eqRowS_l0_ok PM.std (laws_eqRow PM.std) n _ _ _ K).symm.trans h
      · cases h⟩
      ((laws_eqRowS_ok PM.std (laws_eqRow PM.std) _ _ k).trans h)
  · cases h

abbrev laws_eqMark_T := (Int) → (Int) → (Int) → (Int) → (List Int) → (Int) → (Int) → (Int) → (Int) → (List Int) → ((Bool) → PM.R) → PM.R
noncomputable def laws_eqMark_w (c : laws_eqMark_T) (ds : List PM.V) (k : PM.V → PM.R) : PM.R :=
  match ds with
  | [.agg [.int .i64 a_Pc, .int .i64 a_Reads, .int .i64 a_Writes, .int .i64 a_Undos, .arr (.ints 3 .i64 a_Regs)], .agg [.int .i64 b_Pc, .int .i64 b_Reads, .int .i64 b_Writes, .int .i64 b_Undos, .arr (.ints 3 .i64 b_Regs)]] => c a_Pc a_Reads a_Writes a_Undos a_Regs b_Pc b_Reads b_Writes b_Undos b_Regs (fun r0 => k (.bool r0))
  | _ => none
noncomputable def laws_eqMark_f (A : PM.Prims) (c_40 : laws_eqIntS_T) (a_Pc : Int) (a_Reads : Int) (a_Writes : Int) (a_Undos : Int) (a_Regs : List Int) (b_Pc : Int) (b_Reads : Int) (b_Writes : Int) (b_Undos : Int) (b_Regs : List Int) (k : (Bool) → PM.R) : PM.R :=
  bif (A.not (A.eq a_Pc b_Pc)) then
    k false
  else
    bif (A.not (A.eq a_Reads b_Reads)) then
      k false
    else
      bif (A.not (A.eq a_Writes b_Writes)) then
        k false
      else
        bif (A.not (A.eq a_Undos b_Undos)) then
          k false
        else
          c_40 a_Regs b_Regs (fun r1 =>
            bif (A.not r1) then
              k false
            else
              k true)
noncomputable def laws_eqMark (A : PM.Prims) : laws_eqMark_T := laws_eqMark_f A (laws_eqIntS A)
noncomputable def laws_eqMark_L (A : PM.Prims) (c_40 : laws_eqIntS_T) (n : Nat) : PM.Lam := fun cur σ K =>
  match cur, σ, K with
  | _, _, _ => none
noncomputable def laws_eqMark_E (A : PM.Prims) (c_40 : laws_eqIntS_T) : PM.Env := ⟨[(40, ⟨[], laws_eqIntS_w c_40, none⟩)], [], [], [(0, [2, 3]), (1, [2, 3, 9]), (2, [4]), (3, [2, 3, 14]), (4, [4]), (5, [2, 3, 19]), (6, [4]), (7, [2, 3, 24]), (8, [4]), (9, [30]), (10, [4]), (11, [4])], laws_eqMark_L A c_40 A.fuel⟩
theorem laws_eqMark_ok (A : PM.Prims) (c_40 : laws_eqIntS_T) (a_Pc : Int) (a_Reads : Int) (a_Writes : Int) (a_Undos : Int) (a_Regs : List Int) (b_Pc : Int) (b_Reads : Int) (b_Writes : Int) (b_Undos : Int) (b_Regs : List Int) (k : PM.V → PM.R) : PM.pfun A cx [] (laws_eqMark_E A c_40) Go.Proofs.Try.f310 [.agg [.int .i64 a_Pc, .int .i64 a_Reads, .int .i64 a_Writes, .int .i64 a_Undos, .arr (.ints 3 .i64 a_Regs)], .agg [.int .i64 b_Pc, .int .i64 b_Reads, .int .i64 b_Writes, .int .i64 b_Undos, .arr (.ints 3 .i64 b_Regs)]] k = laws_eqMark_f A c_40 a_Pc a_Reads a_Writes a_Undos a_Regs b_Pc b_Reads b_Writes b_Undos b_Regs (fun r0 => k (.bool r0)) := by kernel_rfl

theorem laws_eqMark_fn : PM.FnIs Try.prog 310 Try.f310 := .of Try.func310 (by kernel_rfl) (by kernel_rfl)
theorem laws_eqMark_g : PM.GOk Try.prog cx 310 ⟨[], laws_eqMark_w (laws_eqMark PM.std), none⟩ := by
  refine ⟨laws_eqMark_fn.enter, fun _ ds k r h => ?_, fun hm => absurd rfl hm, fun _ e => (by cases e)⟩
  change laws_eqMark_w (laws_eqMark PM.std) ds k = some r at h
  unfold laws_eqMark_w at h
  split at h
  · exact PM.pfun_ok (E := laws_eqMark_E PM.std (laws_eqIntS PM.std)) (L := fun n => laws_eqMark_L PM.std (laws_eqIntS PM.std) n) (N := PM.std.fuel) cx_ok (.cons laws_eqIntS_g .nil) mixed .nil laws_eqMark_fn (by kernel_rfl) ⟨rfl, fun _ _ _ => rfl, fun n cur σ K r h => by cases h⟩
      ((laws_eqMark_ok PM.std (laws_eqIntS PM.std) _ _ _ _ _ _ _ _ _ _ k).trans h)
  · cases h

abbrev laws_eqMarkS_T := (List (List PM.C)) → (List (List PM.C)) → ((Bool) → PM.R) → PM.R
noncomputable def laws_eqMarkS_w (c : laws_eqMarkS_T) (ds : List PM.V) (k : PM.V → PM.R) : PM.R :=
  match ds with
  | [.arr (.rows 396 a), .arr (.rows 396 b)] => c a b (fun r0 => k (.bool r0))
  | _ => none
noncomputable def laws_eqMarkS_l0 (A : PM.Prims) (c_310 : laws_eqMark_T) : Nat → (List (List C)) → (List (List C)) → (Int) → ((Bool) → PM.R) → (Unit → PM.R) → PM.R
  | 0, _, _, _, _, _ => none
  | n + 1, a1, b2, i3, kret_0, kx0_0 =>
    bif (A.lt i3 (A.rlen a1)) then
      bif (A.inb i3 (A.rlen a1)) then
        bif (A.inb i3 (A.rlen b2)) then
          c_310 (A.rint a1 i3 0) (A.rint a1 i3 1) (A.rint a1 i3 2) (A.rint a1 i3 3) (A.rsi a1 i3 4) (A.rint b2 i3 0) (A.rint b2 i3 1) (A.rint b2 i3 2) (A.rint b2 i3 3) (A.rsi b2 i3 4) (fun r4 =>
            bif (A.not r4) then
              kret_0 false
            else
              laws_eqMarkS_l0 A c_310 n a1 b2 (A.add .i64 i3 1) kret_0 kx0_0)
        else
          none
      else
        none
    else
      kx0_0 ()
noncomputable def laws_eqMarkS_f (A : PM.Prims) (c_310 : laws_eqMark_T) (a : List (List PM.C)) (b : List (List PM.C)) (k : (Bool) → PM.R) : PM.R :=
  bif (A.not (A.eq (A.rlen a) (A.rlen b))) then
    k false
  else
    laws_eqMarkS_l0 A c_310 A.fuel a b 0 (fun t456 =>
      k t456) (fun _ =>
      k true)
noncomputable def laws_eqMarkS (A : PM.Prims) : laws_eqMarkS_T := laws_eqMarkS_f A (laws_eqMark A)
noncomputable def laws_eqMarkS_L (A : PM.Prims) (c_310 : laws_eqMark_T) (n : Nat) : PM.Lam := fun cur σ K =>
  match cur, σ, K with
  | 0, ⟨[(0, .arr (.rows 396 a1)), (1, .arr (.rows 396 b2)), (5, .int .i64 i3)], []⟩, K => laws_eqMarkS_l0 A c_310 n a1 b2 i3 (fun t45 => K .ret ⟨[(4, .bool t45)], []⟩) (fun _ => K (.exit 0) ⟨[], []⟩)
  | _, _, _ => none
noncomputable def laws_eqMarkS_E (A : PM.Prims) (c_310 : laws_eqMark_T) : PM.Env := ⟨[(310, ⟨[], laws_eqMark_w c_310, none⟩)], [], [(0, [0, 1, 5], [4])], [(0, [0, 1]), (1, [0, 1, 10]), (2, [4]), (3, [0, 1, 5]), (4, [0, 1, 5, 14]), (5, [0, 1, 5]), (6, [0, 1, 5, 26]), (7, [4]), (8, [4])], laws_eqMarkS_L A c_310 A.fuel⟩
theorem laws_eqMarkS_l0_ok (A : PM.Prims) (c_310 : laws_eqMark_T) (n : Nat) (a1 : List (List C)) (b2 : List (List C)) (i3 : Int) (K : Go.Exit → PM.S → PM.R) : laws_eqMarkS_L A c_310 (n + 1) 0 ⟨[(0, .arr (.rows 396 a1)), (1, .arr (.rows 396 b2)), (5, .int .i64 i3)], []⟩ K = PM.roundF A cx (PM.runD A cx (laws_eqMarkS_E A c_310).inl (laws_eqMarkS_E A c_310).Γ 3) (laws_eqMarkS_E A c_310) (laws_eqMarkS_L A c_310 n) 0 Go.Proofs.Try.f272 ⟨[(0, .arr (.rows 396 a1)), (1, .arr (.rows 396 b2)), (5, .int .i64 i3)], []⟩ K := by kernel_rfl
theorem laws_eqMarkS_ok (A : PM.Prims) (c_310 : laws_eqMark_T) (a : List (List PM.C)) (b : List (List PM.C)) (k : PM.V → PM.R) : PM.pfun A cx [] (laws_eqMarkS_E A c_310) Go.Proofs.Try.f272 [.arr (.rows 396 a), .arr (.rows 396 b)] k = laws_eqMarkS_f A c_310 a b (fun r0 => k (.bool r0)) := by kernel_rfl

theorem laws_eqMarkS_fn : PM.FnIs Try.prog 272 Try.f272 := .of Try.func272 (by kernel_rfl) (by kernel_rfl)
theorem laws_eqMarkS_g : PM.GOk Try.prog cx 272 ⟨[], laws_eqMarkS_w (laws_eqMarkS PM.std), none⟩ := by
  refine ⟨laws_eqMarkS_fn.enter, fun _ ds k r h => ?_, fun hm => absurd rfl hm, fun _ e => (by cases e)⟩
  change laws_eqMarkS_w (laws_eqMarkS PM.std) ds k = some r at h
  unfold laws_eqMarkS_w at h
  split at h
  · exact PM.pfun_ok (E := laws_eqMarkS_E PM.std (laws_eqMark PM.std)) (L := fun n => laws_eqMarkS_L PM.std (laws_eqMark PM.std) n) (N := PM.std.fuel) cx_ok (.cons laws_eqMark_g .nil) mixed .nil laws_eqMarkS_fn (by kernel_rfl) ⟨rfl, fun cur σ K => by
      dsimp only [laws_eqMarkS_L]
      split <;> rfl, fun n cur σ K r h => by
      dsimp only [laws_eqMarkS_L] at h
      split at h
      · exact (laws_eqMarkS_l0_ok PM.std (laws_eqMark PM.std) n _ _ _ K).symm.trans h
      · cases h⟩
      ((laws_eqMarkS_ok PM.std (laws_eqMark PM.std) _ _ k).trans h)
  · cases h

abbrev laws_eqUndo_T := (Int) → (Int) → (Int) → (Int) → (Int) → (Int) → ((Bool) → PM.R) → PM.R
noncomputable def laws_eqUndo_w (c : laws_eqUndo_T) (ds : List PM.V) (k : PM.V → PM.R) : PM.R :=
  match ds with
  | [.agg [.int .i64 a_Kind, .int .i64 a_Key, .int .i64 a_Val], .agg [.int .i64 b_Kind, .int .i64 b_Key, .int .i64 b_Val]] => c a_Kind a_Key a_Val b_Kind b_Key b_Val (fun r0 => k (.bool r0))
  | _ => none
noncomputable def laws_eqUndo_f (A : PM.Prims) (a_Kind : Int) (a_Key : Int) (a_Val : Int) (b_Kind : Int) (b_Key : Int) (b_Val : Int) (k : (Bool) → PM.R) : PM.R :=
  bif (A.not (A.eq a_Kind b_Kind)) then
    k false
  else
    bif (A.not (A.eq a_Key b_Key)) then
      k false
    else
      bif (A.not (A.eq a_Val b_Val)) then
        k false
      else
        k true
noncomputable def laws_eqUndo (A : PM.Prims) : laws_eqUndo_T := laws_eqUndo_f A
noncomputable def laws_eqUndo_L (A : PM.Prims) (n : Nat) : PM.Lam := fun cur σ K =>
  match cur, σ, K with
  | _, _, _ => none
noncomputable def laws_eqUndo_E (A : PM.Prims) : PM.Env := ⟨[], [], [], [(0, [2, 3]), (1, [2, 3, 9]), (2, [4]), (3, [2, 3, 14]), (4, [4]), (5, [19]), (6, [4]), (7, [4])], laws_eqUndo_L A A.fuel⟩
theorem laws_eqUndo_ok (A : PM.Prims) (a_Kind : Int) (a_Key : Int) (a_Val : Int) (b_Kind : Int) (b_Key : Int) (b_Val : Int) (k : PM.V → PM.R) : PM.pfun A cx [] (laws_eqUndo_E A) Go.Proofs.Try.f311 [.agg [.int .i64 a_Kind, .int .i64 a_Key, .int .i64 a_Val], .agg [.int .i64 b_Kind, .int .i64 b_Key, .int .i64 b_Val]] k = laws_eqUndo_f A a_Kind a_Key a_Val b_Kind b_Key b_Val (fun r0 => k (.bool r0)) := by kernel_rfl

theorem laws_eqUndo_fn : PM.FnIs Try.prog 311 Try.f311 := .of Try.func311 (by kernel_rfl) (by kernel_rfl)
theorem laws_eqUndo_g : PM.GOk Try.prog cx 311 ⟨[], laws_eqUndo_w (laws_eqUndo PM.std), none⟩ := by
  refine ⟨laws_eqUndo_fn.enter, fun _ ds k r h => ?_, fun hm => absurd rfl hm, fun _ e => (by cases e)⟩
  change laws_eqUndo_w (laws_eqUndo PM.std) ds k = some r at h
  unfold laws_eqUndo_w at h
  split at h
  · exact PM.pfun_ok (E := laws_eqUndo_E PM.std) (L := fun n => laws_eqUndo_L PM.std n) (N := PM.std.fuel) cx_ok .nil mixed .nil laws_eqUndo_fn (by kernel_rfl) ⟨rfl, fun _ _ _ => rfl, fun n cur σ K r h => by cases h⟩
      ((laws_eqUndo_ok PM.std _ _ _ _ _ _ k).trans h)
  · cases h

abbrev laws_eqUndoS_T := (List (List Int)) → (List (List Int)) → ((Bool) → PM.R) → PM.R
noncomputable def laws_eqUndoS_w (c : laws_eqUndoS_T) (ds : List PM.V) (k : PM.V → PM.R) : PM.R :=
  match ds with
  | [.arr (.vecs 399 3 a), .arr (.vecs 399 3 b)] => c a b (fun r0 => k (.bool r0))
  | _ => none
noncomputable def laws_eqUndoS_l0 (A : PM.Prims) (c_311 : laws_eqUndo_T) : Nat → (List (List Int)) → (List (List Int)) → (Int) → ((Bool) → PM.R) → (Unit → PM.R) → PM.R
  | 0, _, _, _, _, _ => none
  | n + 1, a1, b2, i3, kret_0, kx0_0 =>
    bif (A.lt i3 (A.vlen a1)) then
      bif (A.inb i3 (A.vlen a1)) then
        bif (A.inb i3 (A.vlen b2)) then
          c_311 (A.vget a1 i3 0) (A.vget a1 i3 1) (A.vget a1 i3 2) (A.vget b2 i3 0) (A.vget b2 i3 1) (A.vget b2 i3 2) (fun r4 =>
            bif (A.not r4) then
              kret_0 false
            else
              laws_eqUndoS_l0 A c_311 n a1 b2 (A.add .i64 i3 1) kret_0 kx0_0)
        else
          none
      else
        none
    else
      kx0_0 ()
noncomputable def laws_eqUndoS_f (A : PM.Prims) (c_311 : laws_eqUndo_T) (a : List (List Int)) (b : List (List Int)) (k : (Bool) → PM.R) : PM.R :=
  bif (A.not (A.eq (A.vlen a) (A.vlen b))) then
    k false
  else
    laws_eqUndoS_l0 A c_311 A.fuel a b 0 (fun t456 =>
      k t456) (fun _ =>
      k true)
noncomputable def laws_eqUndoS (A : PM.Prims) : laws_eqUndoS_T := laws_eqUndoS_f A (laws_eqUndo A)
noncomputable def laws_eqUndoS_L (A : PM.Prims) (c_311 : laws_eqUndo_T) (n : Nat) : PM.Lam := fun cur σ K =>
  match cur, σ, K with
  | 0, ⟨[(0, .arr (.vecs 399 3 a1)), (1, .arr (.vecs 399 3 b2)), (5, .int .i64 i3)], []⟩, K => laws_eqUndoS_l0 A c_311 n a1 b2 i3 (fun t45 => K .ret ⟨[(4, .bool t45)], []⟩) (fun _ => K (.exit 0) ⟨[], []⟩)
  | _, _, _ => none
noncomputable def laws_eqUndoS_E (A : PM.Prims) (c_311 : laws_eqUndo_T) : PM.Env := ⟨[(311, ⟨[], laws_eqUndo_w c_311, none⟩)], [], [(0, [0, 1, 5], [4])], [(0, [0, 1]), (1, [0, 1, 10]), (2, [4]), (3, [0, 1, 5]), (4, [0, 1, 5, 14]), (5, [0, 1, 5]), (6, [0, 1, 5, 26]), (7, [4]), (8, [4])], laws_eqUndoS_L A c_311 A.fuel⟩
theorem laws_eqUndoS_l0_ok (A : PM.Prims) (c_311 : laws_eqUndo_T) (n : Nat) (a1 : List (List Int)) (b2 : List (List Int)) (i3 : Int) (K : Go.Exit → PM.S → PM.R) : laws_eqUndoS_L A c_311 (n + 1) 0 ⟨[(0, .arr (.vecs 399 3 a1)), (1, .arr (.vecs 399 3 b2)), (5, .int .i64 i3)], []⟩ K = PM.roundF A cx (PM.runD A cx (laws_eqUndoS_E A c_311).inl (laws_eqUndoS_E A c_311).Γ 3) (laws_eqUndoS_E A c_311) (laws_eqUndoS_L A c_311 n) 0 Go.Proofs.Try.f273 ⟨[(0, .arr (.vecs 399 3 a1)), (1, .arr (.vecs 399 3 b2)), (5, .int .i64 i3)], []⟩ K := by kernel_rfl
theorem laws_eqUndoS_ok (A : PM.Prims) (c_311 : laws_eqUndo_T) (a : List (List Int)) (b : List (List Int)) (k : PM.V → PM.R) : PM.pfun A cx [] (laws_eqUndoS_E A c_311) Go.Proofs.Try.f273 [.arr (.vecs 399 3 a), .arr (.vecs 399 3 b)] k = laws_eqUndoS_f A c_311 a b (fun r0 => k (.bool r0)) := by kernel_rfl

theorem laws_eqUndoS_fn : PM.FnIs Try.prog 273 Try.f273 := .of Try.func273 (by kernel_rfl) (by kernel_rfl)
theorem laws_eqUndoS_g : PM.GOk Try.prog cx 273 ⟨[], laws_eqUndoS_w (laws_eqUndoS PM.std), none⟩ := by
  refine ⟨laws_eqUndoS_fn.enter, fun _ ds k r h => ?_, fun hm => absurd rfl hm, fun _ e => (by cases e)⟩
  change laws_eqUndoS_w (laws_eqUndoS PM.std) ds k = some r at h
  unfold laws_eqUndoS_w at h
  split at h
  · exact PM.pfun_ok (E := laws_eqUndoS_E PM.std (laws_eqUndo PM.std)) (L := fun n => laws_eqUndoS_L PM.std (laws_eqUndo PM.std) n) (N := PM.std.fuel) cx_ok (.cons laws_eqUndo_g .nil) mixed .nil laws_eqUndoS_fn (by kernel_rfl) ⟨rfl, fun cur σ K => by
      dsimp only [laws_eqUndoS_L]
      split <;> rfl, fun n cur σ K r h => by
      dsimp only [laws_eqUndoS_L] at h
      split at h
      · exact (laws_eqUndoS_l0_ok PM.std (laws_eqUndo PM.std) n _ _ _ K).symm.trans h
      · cases h⟩
      ((laws_eqUndoS_ok PM.std (laws_eqUndo PM.std) _ _ k).trans h)
  · cases h

abbrev laws_eqProbe_T := (Int) → (Int) → (Int) → (Int) → (Int) → (Int) → (Int) → (Int) → ((Bool) → PM.R) → PM.R
noncomputable def laws_eqProbe_w (c : laws_eqProbe_T) (ds : List PM.V) (k : PM.V → PM.R) : PM.R :=
  match ds with
  | [.agg [.int .i64 a_Cell, .int .i64 a_Phase, .int .i64 a_Ver, .int .i64 a_Val], .agg [.int .i64 b_Cell, .int .i64 b_Phase, .int .i64 b_Ver, .int .i64 b_Val]] => c a_Cell a_Phase a_Ver a_Val b_Cell b_Phase b_Ver b_Val (fun r0 => k (.bool r0))
  | _ => none
noncomputable def laws_eqProbe_f (A : PM.Prims) (a_Cell : Int) (a_Phase : Int) (a_Ver : Int) (a_Val : Int) (b_Cell : Int) (b_Phase : Int) (b_Ver : Int) (b_Val : Int) (k : (Bool) → PM.R) : PM.R :=
  bif (A.not (A.eq a_Cell b_Cell)) then
    k false
  else
    bif (A.not (A.eq a_Phase b_Phase)) then
      k false
    else
      bif (A.not (A.eq a_Ver b_Ver)) then
        k false
      else
        bif (A.not (A.eq a_Val b_Val)) then
          k false
        else
          k true
noncomputable def laws_eqProbe (A : PM.Prims) : laws_eqProbe_T := laws_eqProbe_f A
noncomputable def laws_eqProbe_L (A : PM.Prims) (n : Nat) : PM.Lam := fun cur σ K =>
  match cur, σ, K with
  | _, _, _ => none
noncomputable def laws_eqProbe_E (A : PM.Prims) : PM.Env := ⟨[], [], [], [(0, [2, 3]), (1, [2, 3, 9]), (2, [4]), (3, [2, 3, 14]), (4, [4]), (5, [2, 3, 19]), (6, [4]), (7, [24]), (8, [4]), (9, [4])], laws_eqProbe_L A A.fuel⟩
theorem laws_eqProbe_ok (A : PM.Prims) (a_Cell : Int) (a_Phase : Int) (a_Ver : Int) (a_Val : Int) (b_Cell : Int) (b_Phase : Int) (b_Ver : Int) (b_Val : Int) (k : PM.V → PM.R) : PM.pfun A cx [] (laws_eqProbe_E A) Go.Proofs.Try.f274 [.agg [.int .i64 a_Cell, .int .i64 a_Phase, .int .i64 a_Ver, .int .i64 a_Val], .agg [.int .i64 b_Cell, .int .i64 b_Phase, .int .i64 b_Ver, .int .i64 b_Val]] k = laws_eqProbe_f A a_Cell a_Phase a_Ver a_Val b_Cell b_Phase b_Ver b_Val (fun r0 => k (.bool r0)) := by kernel_rfl

theorem laws_eqProbe_fn : PM.FnIs Try.prog 274 Try.f274 := .of Try.func274 (by kernel_rfl) (by kernel_rfl)
theorem laws_eqProbe_g : PM.GOk Try.prog cx 274 ⟨[], laws_eqProbe_w (laws_eqProbe PM.std), none⟩ := by
  refine ⟨laws_eqProbe_fn.enter, fun _ ds k r h => ?_, fun hm => absurd rfl hm, fun _ e => (by cases e)⟩
  change laws_eqProbe_w (laws_eqProbe PM.std) ds k = some r at h
  unfold laws_eqProbe_w at h
  split at h
  · exact PM.pfun_ok (E := laws_eqProbe_E PM.std) (L := fun n => laws_eqProbe_L PM.std n) (N := PM.std.fuel) cx_ok .nil mixed .nil laws_eqProbe_fn (by kernel_rfl) ⟨rfl, fun _ _ _ => rfl, fun n cur σ K r h => by cases h⟩
      ((laws_eqProbe_ok PM.std _ _ _ _ _ _ _ _ k).trans h)
  · cases h

abbrev laws_eqCommit_T := (Int) → (Int) → (Int) → (Int) → (Int) → (List (List Int)) → (List Int) → (Int) → (Int) → (Int) → (Int) → (Int) → (List (List Int)) → (List Int) → ((Bool) → PM.R) → PM.R
noncomputable def laws_eqCommit_w (c : laws_eqCommit_T) (ds : List PM.V) (k : PM.V → PM.R) : PM.R :=
  match ds with
  | [.agg [.int .i64 a_Who, .int .i64 a_Rv, .int .i64 a_Phase, .int .i64 a_At, .int .i64 a_Wv, .arr (.vecs 161 2 a_Puts), .arr (.ints 3 .i64 a_Reads)], .agg [.int .i64 b_Who, .int .i64 b_Rv, .int .i64 b_Phase, .int .i64 b_At, .int .i64 b_Wv, .arr (.vecs 161 2 b_Puts), .arr (.ints 3 .i64 b_Reads)]] => c a_Who a_Rv a_Phase a_At a_Wv a_Puts a_Reads b_Who b_Rv b_Phase b_At b_Wv b_Puts b_Reads (fun r0 => k (.bool r0))
  | _ => none
noncomputable def laws_eqCommit_f (A : PM.Prims) (c_40 : laws_eqIntS_T) (c_66 : laws_eqRowS_T) (a_Who : Int) (a_Rv : Int) (a_Phase : Int) (a_At : Int) (a_Wv : Int) (a_Puts : List (List Int)) (a_Reads : List Int) (b_Who : Int) (b_Rv : Int) (b_Phase : Int) (b_At : Int) (b_Wv : Int) (b_Puts : List (List Int)) (b_Reads : List Int) (k : (Bool) → PM.R) : PM.R :=
  bif (A.not (A.eq a_Who b_Who)) then
    k false
  else
    bif (A.not (A.eq a_Rv b_Rv)) then
      k false
    else
      bif (A.not (A.eq a_Phase b_Phase)) then
        k false
      else
        bif (A.not (A.eq a_At b_At)) then
          k false
        else
          bif (A.not (A.eq a_Wv b_Wv)) then
            k false
          else
            c_66 a_Puts b_Puts (fun r1 =>
              bif (A.not r1) then
                k false
              else
                c_40 a_Reads b_Reads (fun r2 =>
                  bif (A.not r2) then
                    k false
                  else
                    k true))
noncomputable def laws_eqCommit (A : PM.Prims) : laws_eqCommit_T := laws_eqCommit_f A (laws_eqIntS A) (laws_eqRowS A)
noncomputable def laws_eqCommit_L (A : PM.Prims) (c_40 : laws_eqIntS_T) (c_66 : laws_eqRowS_T) (n : Nat) : PM.Lam := fun cur σ K =>
  match cur, σ, K with
  | _, _, _ => none
noncomputable def laws_eqCommit_E (A : PM.Prims) (c_40 : laws_eqIntS_T) (c_66 : laws_eqRowS_T) : PM.Env := ⟨[(40, ⟨[], laws_eqIntS_w c_40, none⟩), (66, ⟨[], laws_eqRowS_w c_66, none⟩)], [], [], [(0, [2, 3]), (1, [2, 3, 9]), (2, [4]), (3, [2, 3, 14]), (4, [4]), (5, [2, 3, 19]), (6, [4]), (7, [2, 3, 24]), (8, [4]), (9, [2, 3, 29]), (10, [4]), (11, [2, 3, 35]), (12, [4]), (13, [41]), (14, [4]), (15, [4])], laws_eqCommit_L A c_40 c_66 A.fuel⟩
theorem laws_eqCommit_ok (A : PM.Prims) (c_40 : laws_eqIntS_T) (c_66 : laws_eqRowS_T) (a_Who : Int) (a_Rv : Int) (a_Phase : Int) (a_At : Int) (a_Wv : Int) (a_Puts : List (List Int)) (a_Reads : List Int) (b_Who : Int) (b_Rv : Int) (b_Phase : Int) (b_At : Int) (b_Wv : Int) (b_Puts : List (List Int)) (b_Reads : List Int) (k : PM.V → PM.R) : PM.pfun A cx [] (laws_eqCommit_E A c_40 c_66) Go.Proofs.Try.f275 [.agg [.int .i64 a_Who, .int .i64 a_Rv, .int .i64 a_Phase, .int .i64 a_At, .int .i64 a_Wv, .arr (.vecs 161 2 a_Puts), .arr (.ints 3 .i64 a_Reads)], .agg [.int .i64 b_Who, .int .i64 b_Rv, .int .i64 b_Phase, .int .i64 b_At, .int .i64 b_Wv, .arr (.vecs 161 2 b_Puts), .arr (.ints 3 .i64 b_Reads)]] k = laws_eqCommit_f A c_40 c_66 a_Who a_Rv a_Phase a_At a_Wv a_Puts a_Reads b_Who b_Rv b_Phase b_At b_Wv b_Puts b_Reads (fun r0 => k (.bool r0)) := by kernel_rfl

theorem laws_eqCommit_fn : PM.FnIs Try.prog 275 Try.f275 := .of Try.func275 (by kernel_rfl) (by kernel_rfl)
theorem laws_eqCommit_g : PM.GOk Try.prog cx 275 ⟨[], laws_eqCommit_w (laws_eqCommit PM.std), none⟩ := by
  refine ⟨laws_eqCommit_fn.enter, fun _ ds k r h => ?_, fun hm => absurd rfl hm, fun _ e => (by cases e)⟩
  change laws_eqCommit_w (laws_eqCommit PM.std) ds k = some r at h
  unfold laws_eqCommit_w at h
  split at h
  · exact PM.pfun_ok (E := laws_eqCommit_E PM.std (laws_eqIntS PM.std) (laws_eqRowS PM.std)) (L := fun n => laws_eqCommit_L PM.std (laws_eqIntS PM.std) (laws_eqRowS PM.std) n) (N := PM.std.fuel) cx_ok (.cons laws_eqIntS_g (.cons laws_eqRowS_g .nil)) mixed .nil laws_eqCommit_fn (by kernel_rfl) ⟨rfl, fun _ _ _ => rfl, fun n cur σ K r h => by cases h⟩
      ((laws_eqCommit_ok PM.std (laws_eqIntS PM.std) (laws_eqRowS PM.std) _ _ _ _ _ _ _ _ _ _ _ _ _ _ k).trans h)
  · cases h

abbrev laws_eqEntry_T := (Int) → (Int) → (Int) → (Int) → (Int) → (Int) → ((Bool) → PM.R) → PM.R
noncomputable def laws_eqEntry_w (c : laws_eqEntry_T) (ds : List PM.V) (k : PM.V → PM.R) : PM.R :=
  match ds with
  | [.agg [.int .i64 a_Cell, .int .i64 a_Val, .int .i64 a_Ver], .agg [.int .i64 b_Cell, .int .i64 b_Val, .int .i64 b_Ver]] => c a_Cell a_Val a_Ver b_Cell b_Val b_Ver (fun r0 => k (.bool r0))
  | _ => none
noncomputable def laws_eqEntry_f (A : PM.Prims) (a_Cell : Int) (a_Val : Int) (a_Ver : Int) (b_Cell : Int) (b_Val : Int) (b_Ver : Int) (k : (Bool) → PM.R) : PM.R :=
  bif (A.not (A.eq a_Cell b_Cell)) then
    k false
  else
    bif (A.not (A.eq a_Val b_Val)) then
      k false
    else
      bif (A.not (A.eq a_Ver b_Ver)) then
        k false
      else
        k true
noncomputable def laws_eqEntry (A : PM.Prims) : laws_eqEntry_T := laws_eqEntry_f A
noncomputable def laws_eqEntry_L (A : PM.Prims) (n : Nat) : PM.Lam := fun cur σ K =>
  match cur, σ, K with
  | _, _, _ => none
noncomputable def laws_eqEntry_E (A : PM.Prims) : PM.Env := ⟨[], [], [], [(0, [2, 3]), (1, [2, 3, 9]), (2, [4]), (3, [2, 3, 14]), (4, [4]), (5, [19]), (6, [4]), (7, [4])], laws_eqEntry_L A A.fuel⟩
theorem laws_eqEntry_ok (A : PM.Prims) (a_Cell : Int) (a_Val : Int) (a_Ver : Int) (b_Cell : Int) (b_Val : Int) (b_Ver : Int) (k : PM.V → PM.R) : PM.pfun A cx [] (laws_eqEntry_E A) Go.Proofs.Try.f218 [.agg [.int .i64 a_Cell, .int .i64 a_Val, .int .i64 a_Ver], .agg [.int .i64 b_Cell, .int .i64 b_Val, .int .i64 b_Ver]] k = laws_eqEntry_f A a_Cell a_Val a_Ver b_Cell b_Val b_Ver (fun r0 => k (.bool r0)) := by kernel_rfl

theorem laws_eqEntry_fn : PM.FnIs Try.prog 218 Try.f218 := .of Try.func218 (by kernel_rfl) (by kernel_rfl)
theorem laws_eqEntry_g : PM.GOk Try.prog cx 218 ⟨[], laws_eqEntry_w (laws_eqEntry PM.std), none⟩ := by
  refine ⟨laws_eqEntry_fn.enter, fun _ ds k r h => ?_, fun hm => absurd rfl hm, fun _ e => (by cases e)⟩
  change laws_eqEntry_w (laws_eqEntry PM.std) ds k = some r at h
  unfold laws_eqEntry_w at h
  split at h
  · exact PM.pfun_ok (E := laws_eqEntry_E PM.std) (L := fun n => laws_eqEntry_L PM.std n) (N := PM.std.fuel) cx_ok .nil mixed .nil laws_eqEntry_fn (by kernel_rfl) ⟨rfl, fun _ _ _ => rfl, fun n cur σ K r h => by cases h⟩
      ((laws_eqEntry_ok PM.std _ _ _ _ _ _ k).trans h)
  · cases h

abbrev laws_eqEntryS_T := (List (List Int)) → (List (List Int)) → ((Bool) → PM.R) → PM.R
noncomputable def laws_eqEntryS_w (c : laws_eqEntryS_T) (ds : List PM.V) (k : PM.V → PM.R) : PM.R :=
  match ds with
  | [.arr (.vecs 225 3 a), .arr (.vecs 225 3 b)] => c a b (fun r0 => k (.bool r0))
  | _ => none
noncomputable def laws_eqEntryS_l0 (A : PM.Prims) (c_218 : laws_eqEntry_T) : Nat → (List (List Int)) → (List (List Int)) → (Int) → ((Bool) → PM.R) → (Unit → PM.R) → PM.R
  | 0, _, _, _, _, _ => none
  | n + 1, a1, b2, i3, kret_0, kx0_0 =>
    bif (A.lt i3 (A.vlen a1)) then
      bif (A.inb i3 (A.vlen a1)) then
        bif (A.inb i3 (A.vlen b2)) then
          c_218 (A.vget a1 i3 0) (A.vget a1 i3 1) (A.vget a1 i3 2) (A.vget b2 i3 0) (A.vget b2 i3 1) (A.vget b2 i3 2) (fun r4 =>
            bif (A.not r4) then
              kret_0 false
            else
              laws_eqEntryS_l0 A c_218 n a1 b2 (A.add .i64 i3 1) kret_0 kx0_0)
        else
          none
      else
        none
    else
      kx0_0 ()
noncomputable def laws_eqEntryS_f (A : PM.Prims) (c_218 : laws_eqEntry_T) (a : List (List Int)) (b : List (List Int)) (k : (Bool) → PM.R) : PM.R :=
  bif (A.not (A.eq (A.vlen a) (A.vlen b))) then
    k false
  else
    laws_eqEntryS_l0 A c_218 A.fuel a b 0 (fun t456 =>
      k t456) (fun _ =>
      k true)
noncomputable def laws_eqEntryS (A : PM.Prims) : laws_eqEntryS_T := laws_eqEntryS_f A (laws_eqEntry A)
noncomputable def laws_eqEntryS_L (A : PM.Prims) (c_218 : laws_eqEntry_T) (n : Nat) : PM.Lam := fun cur σ K =>
  match cur, σ, K with
  | 0, ⟨[(0, .arr (.vecs 225 3 a1)), (1, .arr (.vecs 225 3 b2)), (5, .int .i64 i3)], []⟩, K => laws_eqEntryS_l0 A c_218 n a1 b2 i3 (fun t45 => K .ret ⟨[(4, .bool t45)], []⟩) (fun _ => K (.exit 0) ⟨[], []⟩)
  | _, _, _ => none
noncomputable def laws_eqEntryS_E (A : PM.Prims) (c_218 : laws_eqEntry_T) : PM.Env := ⟨[(218, ⟨[], laws_eqEntry_w c_218, none⟩)], [], [(0, [0, 1, 5], [4])], [(0, [0, 1]), (1, [0, 1, 10]), (2, [4]), (3, [0, 1, 5]), (4, [0, 1, 5, 14]), (5, [0, 1, 5]), (6, [0, 1, 5, 26]), (7, [4]), (8, [4])], laws_eqEntryS_L A c_218 A.fuel⟩
theorem laws_eqEntryS_l0_ok (A : PM.Prims) (c_218 : laws_eqEntry_T) (n : Nat) (a1 : List (List Int)) (b2 : List (List Int)) (i3 : Int) (K : Go.Exit → PM.S → PM.R) : laws_eqEntryS_L A c_218 (n + 1) 0 ⟨[(0, .arr (.vecs 225 3 a1)), (1, .arr (.vecs 225 3 b2)), (5, .int .i64 i3)], []⟩ K = PM.roundF A cx (PM.runD A cx (laws_eqEntryS_E A c_218).inl (laws_eqEntryS_E A c_218).Γ 3) (laws_eqEntryS_E A c_218) (laws_eqEntryS_L A c_218 n) 0 Go.Proofs.Try.f155 ⟨[(0, .arr (.vecs 225 3 a1)), (1, .arr (.vecs 225 3 b2)), (5, .int .i64 i3)], []⟩ K := by kernel_rfl
theorem laws_eqEntryS_ok (A : PM.Prims) (c_218 : laws_eqEntry_T) (a : List (List Int)) (b : List (List Int)) (k : PM.V → PM.R) : PM.pfun A cx [] (laws_eqEntryS_E A c_218) Go.Proofs.Try.f155 [.arr (.vecs 225 3 a), .arr (.vecs 225 3 b)] k = laws_eqEntryS_f A c_218 a b (fun r0 => k (.bool r0)) := by kernel_rfl

theorem laws_eqEntryS_fn : PM.FnIs Try.prog 155 Try.f155 := .of Try.func155 (by kernel_rfl) (by kernel_rfl)
theorem laws_eqEntryS_g : PM.GOk Try.prog cx 155 ⟨[], laws_eqEntryS_w (laws_eqEntryS PM.std), none⟩ := by
  refine ⟨laws_eqEntryS_fn.enter, fun _ ds k r h => ?_, fun hm => absurd rfl hm, fun _ e => (by cases e)⟩
  change laws_eqEntryS_w (laws_eqEntryS PM.std) ds k = some r at h
  unfold laws_eqEntryS_w at h
  split at h
  · exact PM.pfun_ok (E := laws_eqEntryS_E PM.std (laws_eqEntry PM.std)) (L := fun n => laws_eqEntryS_L PM.std (laws_eqEntry PM.std) n) (N := PM.std.fuel) cx_ok (.cons laws_eqEntry_g .nil) mixed .nil laws_eqEntryS_fn (by kernel_rfl) ⟨rfl, fun cur σ K => by
      dsimp only [laws_eqEntryS_L]
      split <;> rfl, fun n cur σ K r h => by
      dsimp only [laws_eqEntryS_L] at h
      split at h
      · exact (laws_eqEntryS_l0_ok PM.std (laws_eqEntry PM.std) n _ _ _ K).symm.trans h
      · cases h⟩
      ((laws_eqEntryS_ok PM.std (laws_eqEntry PM.std) _ _ k).trans h)
  · cases h

abbrev laws_eqKidMark_T := (Int) → (Int) → (List Int) → (Int) → (Int) → (List Int) → ((Bool) → PM.R) → PM.R
noncomputable def laws_eqKidMark_w (c : laws_eqKidMark_T) (ds : List PM.V) (k : PM.V → PM.R) : PM.R :=
  match ds with
  | [.agg [.int .i64 a_Pc, .int .i64 a_Writes, .arr (.ints 3 .i64 a_Regs)], .agg [.int .i64 b_Pc, .int .i64 b_Writes, .arr (.ints 3 .i64 b_Regs)]] => c a_Pc a_Writes a_Regs b_Pc b_Writes b_Regs (fun r0 => k (.bool r0))
  | _ => none
noncomputable def laws_eqKidMark_f (A : PM.Prims) (c_40 : laws_eqIntS_T) (a_Pc : Int) (a_Writes : Int) (a_Regs : List Int) (b_Pc : Int) (b_Writes : Int) (b_Regs : List Int) (k : (Bool) → PM.R) : PM.R :=
  bif (A.not (A.eq a_Pc b_Pc)) then
    k false
  else
    bif (A.not (A.eq a_Writes b_Writes)) then
      k false
    else
      c_40 a_Regs b_Regs (fun r1 =>
        bif (A.not r1) then
          k false
        else
          k true)
noncomputable def laws_eqKidMark (A : PM.Prims) : laws_eqKidMark_T := laws_eqKidMark_f A (laws_eqIntS A)
noncomputable def laws_eqKidMark_L (A : PM.Prims) (c_40 : laws_eqIntS_T) (n : Nat) : PM.Lam := fun cur σ K =>
  match cur, σ, K with
  | _, _, _ => none
noncomputable def laws_eqKidMark_E (A : PM.Prims) (c_40 : laws_eqIntS_T) : PM.Env := ⟨[(40, ⟨[], laws_eqIntS_w c_40, none⟩)], [], [], [(0, [2, 3]), (1, [2, 3, 9]), (2, [4]), (3, [2, 3, 14]), (4, [4]), (5, [20]), (6, [4]), (7, [4])], laws_eqKidMark_L A c_40 A.fuel⟩
theorem laws_eqKidMark_ok (A : PM.Prims) (c_40 : laws_eqIntS_T) (a_Pc : Int) (a_Writes : Int) (a_Regs : List Int) (b_Pc : Int) (b_Writes : Int) (b_Regs : List Int) (k : PM.V → PM.R) : PM.pfun A cx [] (laws_eqKidMark_E A c_40) Go.Proofs.Try.f314 [.agg [.int .i64 a_Pc, .int .i64 a_Writes, .arr (.ints 3 .i64 a_Regs)], .agg [.int .i64 b_Pc, .int .i64 b_Writes, .arr (.ints 3 .i64 b_Regs)]] k = laws_eqKidMark_f A c_40 a_Pc a_Writes a_Regs b_Pc b_Writes b_Regs (fun r0 => k (.bool r0)) := by kernel_rfl

theorem laws_eqKidMark_fn : PM.FnIs Try.prog 314 Try.f314 := .of Try.func314 (by kernel_rfl) (by kernel_rfl)
theorem laws_eqKidMark_g : PM.GOk Try.prog cx 314 ⟨[], laws_eqKidMark_w (laws_eqKidMark PM.std), none⟩ := by
  refine ⟨laws_eqKidMark_fn.enter, fun _ ds k r h => ?_, fun hm => absurd rfl hm, fun _ e => (by cases e)⟩
  change laws_eqKidMark_w (laws_eqKidMark PM.std) ds k = some r at h
  unfold laws_eqKidMark_w at h
  split at h
  · exact PM.pfun_ok (E := laws_eqKidMark_E PM.std (laws_eqIntS PM.std)) (L := fun n => laws_eqKidMark_L PM.std (laws_eqIntS PM.std) n) (N := PM.std.fuel) cx_ok (.cons laws_eqIntS_g .nil) mixed .nil laws_eqKidMark_fn (by kernel_rfl) ⟨rfl, fun _ _ _ => rfl, fun n cur σ K r h => by cases h⟩
      ((laws_eqKidMark_ok PM.std (laws_eqIntS PM.std) _ _ _ _ _ _ k).trans h)
  · cases h

abbrev laws_eqKidMarkS_T := (List (List PM.C)) → (List (List PM.C)) → ((Bool) → PM.R) → PM.R
noncomputable def laws_eqKidMarkS_w (c : laws_eqKidMarkS_T) (ds : List PM.V) (k : PM.V → PM.R) : PM.R :=
  match ds with
  | [.arr (.rows 368 a), .arr (.rows 368 b)] => c a b (fun r0 => k (.bool r0))
  | _ => none
noncomputable def laws_eqKidMarkS_l0 (A : PM.Prims) (c_314 : laws_eqKidMark_T) : Nat → (List (List C)) → (List (List C)) → (Int) → ((Bool) → PM.R) → (Unit → PM.R) → PM.R
  | 0, _, _, _, _, _ => none
  | n + 1, a1, b2, i3, kret_0, kx0_0 =>
    bif (A.lt i3 (A.rlen a1)) then
      bif (A.inb i3 (A.rlen a1)) then
        bif (A.inb i3 (A.rlen b2)) then
          c_314 (A.rint a1 i3 0) (A.rint a1 i3 1) (A.rsi a1 i3 2) (A.rint b2 i3 0) (A.rint b2 i3 1) (A.rsi b2 i3 2) (fun r4 =>
            bif (A.not r4) then
              kret_0 false
            else
              laws_eqKidMarkS_l0 A c_314 n a1 b2 (A.add .i64 i3 1) kret_0 kx0_0)
        else
          none
      else
        none
    else
      kx0_0 ()
noncomputable def laws_eqKidMarkS_f (A : PM.Prims) (c_314 : laws_eqKidMark_T) (a : List (List PM.C)) (b : List (List PM.C)) (k : (Bool) → PM.R) : PM.R :=
  bif (A.not (A.eq (A.rlen a) (A.rlen b))) then
    k false
  else
    laws_eqKidMarkS_l0 A c_314 A.fuel a b 0 (fun t456 =>
      k t456) (fun _ =>
      k true)
noncomputable def laws_eqKidMarkS (A : PM.Prims) : laws_eqKidMarkS_T := laws_eqKidMarkS_f A (laws_eqKidMark A)
noncomputable def laws_eqKidMarkS_L (A : PM.Prims) (c_314 : laws_eqKidMark_T) (n : Nat) : PM.Lam := fun cur σ K =>
  match cur, σ, K with
  | 0, ⟨[(0, .arr (.rows 368 a1)), (1, .arr (.rows 368 b2)), (5, .int .i64 i3)], []⟩, K => laws_eqKidMarkS_l0 A c_314 n a1 b2 i3 (fun t45 => K .ret ⟨[(4, .bool t45)], []⟩) (fun _ => K (.exit 0) ⟨[], []⟩)
  | _, _, _ => none
noncomputable def laws_eqKidMarkS_E (A : PM.Prims) (c_314 : laws_eqKidMark_T) : PM.Env := ⟨[(314, ⟨[], laws_eqKidMark_w c_314, none⟩)], [], [(0, [0, 1, 5], [4])], [(0, [0, 1]), (1, [0, 1, 10]), (2, [4]), (3, [0, 1, 5]), (4, [0, 1, 5, 14]), (5, [0, 1, 5]), (6, [0, 1, 5, 26]), (7, [4]), (8, [4])], laws_eqKidMarkS_L A c_314 A.fuel⟩
theorem laws_eqKidMarkS_l0_ok (A : PM.Prims) (c_314 : laws_eqKidMark_T) (n : Nat) (a1 : List (List C)) (b2 : List (List C)) (i3 : Int) (K : Go.Exit → PM.S → PM.R) : laws_eqKidMarkS_L A c_314 (n + 1) 0 ⟨[(0, .arr (.rows 368 a1)), (1, .arr (.rows 368 b2)), (5, .int .i64 i3)], []⟩ K = PM.roundF A cx (PM.runD A cx (laws_eqKidMarkS_E A c_314).inl (laws_eqKidMarkS_E A c_314).Γ 3) (laws_eqKidMarkS_E A c_314) (laws_eqKidMarkS_L A c_314 n) 0 Go.Proofs.Try.f278 ⟨[(0, .arr (.rows 368 a1)), (1, .arr (.rows 368 b2)), (5, .int .i64 i3)], []⟩ K := by kernel_rfl
theorem laws_eqKidMarkS_ok (A : PM.Prims) (c_314 : laws_eqKidMark_T) (a : List (List PM.C)) (b : List (List PM.C)) (k : PM.V → PM.R) : PM.pfun A cx [] (laws_eqKidMarkS_E A c_314) Go.Proofs.Try.f278 [.arr (.rows 368 a), .arr (.rows 368 b)] k = laws_eqKidMarkS_f A c_314 a b (fun r0 => k (.bool r0)) := by kernel_rfl

theorem laws_eqKidMarkS_fn : PM.FnIs Try.prog 278 Try.f278 := .of Try.func278 (by kernel_rfl) (by kernel_rfl)
theorem laws_eqKidMarkS_g : PM.GOk Try.prog cx 278 ⟨[], laws_eqKidMarkS_w (laws_eqKidMarkS PM.std), none⟩ := by
  refine ⟨laws_eqKidMarkS_fn.enter, fun _ ds k r h => ?_, fun hm => absurd rfl hm, fun _ e => (by cases e)⟩
  change laws_eqKidMarkS_w (laws_eqKidMarkS PM.std) ds k = some r at h
  unfold laws_eqKidMarkS_w at h
  split at h
  · exact PM.pfun_ok (E := laws_eqKidMarkS_E PM.std (laws_eqKidMark PM.std)) (L := fun n => laws_eqKidMarkS_L PM.std (laws_eqKidMark PM.std) n) (N := PM.std.fuel) cx_ok (.cons laws_eqKidMark_g .nil) mixed .nil laws_eqKidMarkS_fn (by kernel_rfl) ⟨rfl, fun cur σ K => by
      dsimp only [laws_eqKidMarkS_L]
      split <;> rfl, fun n cur σ K r h => by
      dsimp only [laws_eqKidMarkS_L] at h
      split at h
      · exact (laws_eqKidMarkS_l0_ok PM.std (laws_eqKidMark PM.std) n _ _ _ K).symm.trans h
      · cases h⟩
      ((laws_eqKidMarkS_ok PM.std (laws_eqKidMark PM.std) _ _ k).trans h)
  · cases h

abbrev laws_eqKidRun_T := (Int) → (Int) → (Int) → (Int) → (Int) → (Int) → (List Int) → (List (List Int)) → (List (List Int)) → (List (List PM.C)) → (Bool) → (Int) → (Int) → (Int) → (Int) → (Int) → (Int) → (Int) → (Int) → (Int) → (Int) → (List Int) → (List (List Int)) → (List (List Int)) → (List (List PM.C)) → (Bool) → (Int) → (Int) → (Int) → (Int) → ((Bool) → PM.R) → PM.R
noncomputable def laws_eqKidRun_w (c : laws_eqKidRun_T) (ds : List PM.V) (k : PM.V → PM.R) : PM.R :=
  match ds with
  | [.agg [.int .i64 ___Phase, .int .i64 ___Pc, .int .i64 ___Since, .int .i64 ___Tries, .int .i64 ___At, .int .i64 ___Out, .arr (.ints 3 .i64 ___Regs), .arr (.vecs 225 3 ___Seen), .arr (.vecs 161 2 ___Writes), .arr (.rows 368 ___Marks), .bool ___Busy, .int .i64 ___Probe_Cell, .int .i64 ___Probe_Phase, .int .i64 ___Probe_Ver, .int .i64 ___Probe_Val], .agg [.int .i64 a_Phase, .int .i64 a_Pc, .int .i64 a_Since, .int .i64 a_Tries, .int .i64 a_At, .int .i64 a_Out, .arr (.ints 3 .i64 a_Regs), .arr (.vecs 225 3 a_Seen), .arr (.vecs 161 2 a_Writes), .arr (.rows 368 a_Marks), .bool a_Busy, .int .i64 a_Probe_Cell, .int .i64 a_Probe_Phase, .int .i64 a_Probe_Ver, .int .i64 a_Probe_Val]] => c ___Phase ___Pc ___Since ___Tries ___At ___Out ___Regs ___Seen ___Writes ___Marks ___Busy ___Probe_Cell ___Probe_Phase ___Probe_Ver ___Probe_Val a_Phase a_Pc a_Since a_Tries a_At a_Out a_Regs a_Seen a_Writes a_Marks a_Busy a_Probe_Cell a_Probe_Phase a_Probe_Ver a_Probe_Val (fun r0 => k (.bool r0))
  | _ => none
noncomputable def laws_eqKidRun_f (A : PM.Prims) (c_40 : laws_eqIntS_T) (c_66 : laws_eqRowS_T) (c_274 : laws_eqProbe_T) (c_155 : laws_eqEntryS_T) (c_278 : laws_eqKidMarkS_T) (___Phase : Int) (___Pc : Int) (___Since : Int) (___Tries : Int) (___At : Int) (___Out : Int) (___Regs : List Int) (___Seen : List (List Int)) (___Writes : List (List Int)) (___Marks : List (List PM.C)) (___Busy : Bool) (___Probe_Cell : Int) (___Probe_Phase : Int) (___Probe_Ver : Int) (___Probe_Val : Int) (a_Phase : Int) (a_Pc : Int) (a_Since : Int) (a_Tries : Int) (a_At : Int) (a_Out : Int) (a_Regs : List Int) (a_Seen : List (List Int)) (a_Writes : List (List Int)) (a_Marks : List (List PM.C)) (a_Busy : Bool) (a_Probe_Cell : Int) (a_Probe_Phase : Int) (a_Probe_Ver : Int) (a_Probe_Val : Int) (k : (Bool) → PM.R) : PM.R :=
  bif (A.not (A.eq ___Phase a_Phase)) then
    k false
  else
    bif (A.not (A.eq ___Pc a_Pc)) then
      k false
    else
      bif (A.not (A.eq ___Since a_Since)) then
        k false
      else
        bif (A.not (A.eq ___Tries a_Tries)) then
          k false
        else
          bif (A.not (A.eq ___At a_At)) then
            k false
          else
            bif (A.not (A.eq ___Out a_Out)) then
              k false
            else
              c_40 ___Regs a_Regs (fun r1 =>
                bif (A.not r1) then
                  k false
                else
                  c_155 ___Seen a_Seen (fun r2 =>
                    bif (A.not r2) then
                      k false
                    else
                      c_66 ___Writes a_Writes (fun r3 =>
                        bif (A.not r3) then
                          k false
                        else
                          c_278 ___Marks a_Marks (fun r4 =>
                            bif (A.not r4) then
                              k false
                            else
                              bif (A.not (A.beq ___Busy a_Busy)) then
                                k false
                              else
                                c_274 ___Probe_Cell ___Probe_Phase ___Probe_Ver ___Probe_Val a_Probe_Cell a_Probe_Phase a_Probe_Ver a_Probe_Val (fun r5 =>
                                  bif (A.not r5) then
                                    k false
                                  else
                                    k true)))))
noncomputable def laws_eqKidRun (A : PM.Prims) : laws_eqKidRun_T := laws_eqKidRun_f A (laws_eqIntS A) (laws_eqRowS A) (laws_eqProbe A) (laws_eqEntryS A) (laws_eqKidMarkS A)
noncomputable def laws_eqKidRun_L (A : PM.Prims) (c_40 : laws_eqIntS_T) (c_66 : laws_eqRowS_T) (c_274 : laws_eqProbe_T) (c_155 : laws_eqEntryS_T) (c_278 : laws_eqKidMarkS_T) (n : Nat) : PM.Lam := fun cur σ K =>
  match cur, σ, K with
  | _, _, _ => none
noncomputable def laws_eqKidRun_E (A : PM.Prims) (c_40 : laws_eqIntS_T) (c_66 : laws_eqRowS_T) (c_274 : laws_eqProbe_T) (c_155 : laws_eqEntryS_T) (c_278 : laws_eqKidMarkS_T) : PM.Env := ⟨[(40, ⟨[], laws_eqIntS_w c_40, none⟩), (66, ⟨[], laws_eqRowS_w c_66, none⟩), (274, ⟨[], laws_eqProbe_w c_274, none⟩), (155, ⟨[], laws_eqEntryS_w c_155, none⟩), (278, ⟨[], laws_eqKidMarkS_w c_278, none⟩)], [], [], [(0, [2, 3]), (1, [2, 3, 9]), (2, [4]), (3, [2, 3, 14]), (4, [4]), (5, [2, 3, 19]), (6, [4]), (7, [2, 3, 24]), (8, [4]), (9, [2, 3, 29]), (10, [4]), (11, [2, 3, 34]), (12, [4]), (13, [2, 3, 40]), (14, [4]), (15, [2, 3, 46]), (16, [4]), (17, [2, 3, 52]), (18, [4]), (19, [2, 3, 58]), (20, [4]), (21, [2, 3, 63]), (22, [4]), (23, [69]), (24, [4]), (25, [4])], laws_eqKidRun_L A c_40 c_66 c_274 c_155 c_278 A.fuel⟩
theorem laws_eqKidRun_ok (A : PM.Prims) (c_40 : laws_eqIntS_T) (c_66 : laws_eqRowS_T) (c_274 : laws_eqProbe_T) (c_155 : laws_eqEntryS_T) (c_278 : laws_eqKidMarkS_T) (___Phase : Int) (___Pc : Int) (___Since : Int) (___Tries : Int) (___At : Int) (___Out : Int) (___Regs : List Int) (___Seen : List (List Int)) (___Writes : List (List Int)) (___Marks : List (List PM.C)) (___Busy : Bool) (___Probe_Cell : Int) (___Probe_Phase : Int) (___Probe_Ver : Int) (___Probe_Val : Int) (a_Phase : Int) (a_Pc : Int) (a_Since : Int) (a_Tries : Int) (a_At : Int) (a_Out : Int) (a_Regs : List Int) (a_Seen : List (List Int)) (a_Writes : List (List Int)) (a_Marks : List (List PM.C)) (a_Busy : Bool) (a_Probe_Cell : Int) (a_Probe_Phase : Int) (a_Probe_Ver : Int) (a_Probe_Val : Int) (k : PM.V → PM.R) : PM.pfun A cx [] (laws_eqKidRun_E A c_40 c_66 c_274 c_155 c_278) Go.Proofs.Try.f219 [.agg [.int .i64 ___Phase, .int .i64 ___Pc, .int .i64 ___Since, .int .i64 ___Tries, .int .i64 ___At, .int .i64 ___Out, .arr (.ints 3 .i64 ___Regs), .arr (.vecs 225 3 ___Seen), .arr (.vecs 161 2 ___Writes), .arr (.rows 368 ___Marks), .bool ___Busy, .int .i64 ___Probe_Cell, .int .i64 ___Probe_Phase, .int .i64 ___Probe_Ver, .int .i64 ___Probe_Val], .agg [.int .i64 a_Phase, .int .i64 a_Pc, .int .i64 a_Since, .int .i64 a_Tries, .int .i64 a_At, .int .i64 a_Out, .arr (.ints 3 .i64 a_Regs), .arr (.vecs 225 3 a_Seen), .arr (.vecs 161 2 a_Writes), .arr (.rows 368 a_Marks), .bool a_Busy, .int .i64 a_Probe_Cell, .int .i64 a_Probe_Phase, .int .i64 a_Probe_Ver, .int .i64 a_Probe_Val]] k = laws_eqKidRun_f A c_40 c_66 c_274 c_155 c_278 ___Phase ___Pc ___Since ___Tries ___At ___Out ___Regs ___Seen ___Writes ___Marks ___Busy ___Probe_Cell ___Probe_Phase ___Probe_Ver ___Probe_Val a_Phase a_Pc a_Since a_Tries a_At a_Out a_Regs a_Seen a_Writes a_Marks a_Busy a_Probe_Cell a_Probe_Phase a_Probe_Ver a_Probe_Val (fun r0 => k (.bool r0)) := by kernel_rfl

theorem laws_eqKidRun_fn : PM.FnIs Try.prog 219 Try.f219 := .of Try.func219 (by kernel_rfl) (by kernel_rfl)
theorem laws_eqKidRun_g : PM.GOk Try.prog cx 219 ⟨[], laws_eqKidRun_w (laws_eqKidRun PM.std), none⟩ := by
  refine ⟨laws_eqKidRun_fn.enter, fun _ ds k r h => ?_, fun hm => absurd rfl hm, fun _ e => (by cases e)⟩
  change laws_eqKidRun_w (laws_eqKidRun PM.std) ds k = some r at h
  unfold laws_eqKidRun_w at h
  split at h
  · exact PM.pfun_ok (E := laws_eqKidRun_E PM.std (laws_eqIntS PM.std) (laws_eqRowS PM.std) (laws_eqProbe PM.std) (laws_eqEntryS PM.std) (laws_eqKidMarkS PM.std)) (L := fun n => laws_eqKidRun_L PM.std (laws_eqIntS PM.std) (laws_eqRowS PM.std) (laws_eqProbe PM.std) (laws_eqEntryS PM.std) (laws_eqKidMarkS PM.std) n) (N := PM.std.fuel) cx_ok (.cons laws_eqIntS_g (.cons laws_eqRowS_g (.cons laws_eqProbe_g (.cons laws_eqEntryS_g (.cons laws_eqKidMarkS_g .nil))))) mixed .nil laws_eqKidRun_fn (by kernel_rfl) ⟨rfl, fun _ _ _ => rfl, fun n cur σ K r h => by cases h⟩
      ((laws_eqKidRun_ok PM.std (laws_eqIntS PM.std) (laws_eqRowS PM.std) (laws_eqProbe PM.std) (laws_eqEntryS PM.std) (laws_eqKidMarkS PM.std) _ _ _ _ _ _ _ _ _ _ _ _ _ _ _ _ _ _ _ _ _ _ _ _ _ _ _ _ _ _ k).trans h)
  · cases h

abbrev laws_eqKidRunS_T := (List (List PM.C)) → (List (List PM.C)) → ((Bool) → PM.R) → PM.R
noncomputable def laws_eqKidRunS_w (c : laws_eqKidRunS_T) (ds : List PM.V) (k : PM.V → PM.R) : PM.R :=
  match ds with
  | [.arr (.rows 214 a), .arr (.rows 214 b)] => c a b (fun r0 => k (.bool r0))
  | _ => none
noncomputable def laws_eqKidRunS_l0 (A : PM.Prims) (c_219 : laws_eqKidRun_T) : Nat → (List (List C)) → (List (List C)) → (Int) → ((Bool) → PM.R) → (Unit → PM.R) → PM.R
  | 0, _, _, _, _, _ => none
  | n + 1, a1, b2, i3, kret_0, kx0_0 =>
    bif (A.lt i3 (A.rlen a1)) then
      bif (A.inb i3 (A.rlen a1)) then
        bif (A.inb i3 (A.rlen b2)) then
          c_219 (A.rint a1 i3 0) (A.rint a1 i3 1) (A.rint a1 i3 2) (A.rint a1 i3 3) (A.rint a1 i3 4) (A.rint a1 i3 5) (A.rsi a1 i3 6) (A.rsv 3 a1 i3 7) (A.rsv 2 a1 i3 8) (A.rsr a1 i3 9) (A.rbool a1 i3 10) (A.rint a1 i3 11) (A.rint a1 i3 12) (A.rint a1 i3 13) (A.rint a1 i3 14) (A.rint b2 i3 0) (A.rint b2 i3 1) (A.rint b2 i3 2) (A.rint b2 i3 3) (A.rint b2 i3 4) (A.rint b2 i3 5) (A.rsi b2 i3 6) (A.rsv 3 b2 i3 7) (A.rsv 2 b2 i3 8) (A.rsr b2 i3 9) (A.rbool b2 i3 10) (A.rint b2 i3 11) (A.rint b2 i3 12) (A.rint b2 i3 13) (A.rint b2 i3 14) (fun r4 =>
            bif (A.not r4) then
              kret_0 false
            else
              laws_eqKidRunS_l0 A c_219 n a1 b2 (A.add .i64 i3 1) kret_0 kx0_0)
        else
          none
      else
        none
    else
      kx0_0 ()
noncomputable def laws_eqKidRunS_f (A : PM.Prims) (c_219 : laws_eqKidRun_T) (a : List (List PM.C)) (b : List (List PM.C)) (k : (Bool) → PM.R) : PM.R :=
  bif (A.not (A.eq (A.rlen a) (A.rlen b))) then
    k false
  else
    laws_eqKidRunS_l0 A c_219 A.fuel a b 0 (fun t456 =>
      k t456) (fun _ =>
      k true)
noncomputable def laws_eqKidRunS (A : PM.Prims) : laws_eqKidRunS_T := laws_eqKidRunS_f A (laws_eqKidRun A)
noncomputable def laws_eqKidRunS_L (A : PM.Prims) (c_219 : laws_eqKidRun_T) (n : Nat) : PM.Lam := fun cur σ K =>
  match cur, σ, K with
  | 0, ⟨[(0, .arr (.rows 214 a1)), (1, .arr (.rows 214 b2)), (5, .int .i64 i3)], []⟩, K => laws_eqKidRunS_l0 A c_219 n a1 b2 i3 (fun t45 => K .ret ⟨[(4, .bool t45)], []⟩) (fun _ => K (.exit 0) ⟨[], []⟩)
  | _, _, _ => none
noncomputable def laws_eqKidRunS_E (A : PM.Prims) (c_219 : laws_eqKidRun_T) : PM.Env := ⟨[(219, ⟨[], laws_eqKidRun_w c_219, none⟩)], [], [(0, [0, 1, 5], [4])], [(0, [0, 1]), (1, [0, 1, 10]), (2, [4]), (3, [0, 1, 5]), (4, [0, 1, 5, 14]), (5, [0, 1, 5]), (6, [0, 1, 5, 26]), (7, [4]), (8, [4])], laws_eqKidRunS_L A c_219 A.fuel⟩
theorem laws_eqKidRunS_l0_ok (A : PM.Prims) (c_219 : laws_eqKidRun_T) (n : Nat) (a1 : List (List C)) (b2 : List (List C)) (i3 : Int) (K : Go.Exit → PM.S → PM.R) : laws_eqKidRunS_L A c_219 (n + 1) 0 ⟨[(0, .arr (.rows 214 a1)), (1, .arr (.rows 214 b2)), (5, .int .i64 i3)], []⟩ K = PM.roundF A cx (PM.runD A cx (laws_eqKidRunS_E A c_219).inl (laws_eqKidRunS_E A c_219).Γ 3) (laws_eqKidRunS_E A c_219) (laws_eqKidRunS_L A c_219 n) 0 Go.Proofs.Try.f156 ⟨[(0, .arr (.rows 214 a1)), (1, .arr (.rows 214 b2)), (5, .int .i64 i3)], []⟩ K := by kernel_rfl
theorem laws_eqKidRunS_ok (A : PM.Prims) (c_219 : laws_eqKidRun_T) (a : List (List PM.C)) (b : List (List PM.C)) (k : PM.V → PM.R) : PM.pfun A cx [] (laws_eqKidRunS_E A c_219) Go.Proofs.Try.f156 [.arr (.rows 214 a), .arr (.rows 214 b)] k = laws_eqKidRunS_f A c_219 a b (fun r0 => k (.bool r0)) := by kernel_rfl

theorem laws_eqKidRunS_fn : PM.FnIs Try.prog 156 Try.f156 := .of Try.func156 (by kernel_rfl) (by kernel_rfl)
theorem laws_eqKidRunS_g : PM.GOk Try.prog cx 156 ⟨[], laws_eqKidRunS_w (laws_eqKidRunS PM.std), none⟩ := by
  refine ⟨laws_eqKidRunS_fn.enter, fun _ ds k r h => ?_, fun hm => absurd rfl hm, fun _ e => (by cases e)⟩
  change laws_eqKidRunS_w (laws_eqKidRunS PM.std) ds k = some r at h
  unfold laws_eqKidRunS_w at h
  split at h
  · exact PM.pfun_ok (E := laws_eqKidRunS_E PM.std (laws_eqKidRun PM.std)) (L := fun n => laws_eqKidRunS_L PM.std (laws_eqKidRun PM.std) n) (N := PM.std.fuel) cx_ok (.cons laws_eqKidRun_g .nil) mixed .nil laws_eqKidRunS_fn (by kernel_rfl) ⟨rfl, fun cur σ K => by
      dsimp only [laws_eqKidRunS_L]
      split <;> rfl, fun n cur σ K r h => by
      dsimp only [laws_eqKidRunS_L] at h
      split at h
      · exact (laws_eqKidRunS_l0_ok PM.std (laws_eqKidRun PM.std) n _ _ _ K).symm.trans h
      · cases h⟩
      ((laws_eqKidRunS_ok PM.std (laws_eqKidRun PM.std) _ _ k).trans h)
  · cases h

abbrev laws_eqFamily_T := (Int) → (Int) → (Int) → (Bool) → (List Int) → (List (List Int)) → (List (List Int)) → (List Int) → (List (List Int)) → (List (List PM.C)) → (Int) → (Int) → (Int) → (Bool) → (List Int) → (List (List Int)) → (List (List Int)) → (List Int) → (List (List Int)) → (List (List PM.C)) → ((Bool) → PM.R) → PM.R
noncomputable def laws_eqFamily_w (c : laws_eqFamily_T) (ds : List PM.V) (k : PM.V → PM.R) : PM.R :=
  match ds with
  | [.agg [.int .i64 a_Rv, .int .i64 a_Clock, .int .i64 a_Owner, .bool a_Lost, .arr (.ints 3 .i64 a_Regs), .arr (.vecs 161 2 a_Start), .arr (.vecs 225 3 a_Buf), .arr (.ints 3 .i64 a_Order), .arr (.vecs 161 2 a_Reads), .arr (.rows 214 a_Kids)], .agg [.int .i64 b_Rv, .int .i64 b_Clock, .int .i64 b_Owner, .bool b_Lost, .arr (.ints 3 .i64 b_Regs), .arr (.vecs 161 2 b_Start), .arr (.vecs 225 3 b_Buf), .arr (.ints 3 .i64 b_Order), .arr (.vecs 161 2 b_Reads), .arr (.rows 214 b_Kids)]] => c a_Rv a_Clock a_Owner a_Lost a_Regs a_Start a_Buf a_Order a_Reads a_Kids b_Rv b_Clock b_Owner b_Lost b_Regs b_Start b_Buf b_Order b_Reads b_Kids (fun r0 => k (.bool r0))
  | _ => none
noncomputable def laws_eqFamily_f (A : PM.Prims) (c_40 : laws_eqIntS_T) (c_66 : laws_eqRowS_T) (c_155 : laws_eqEntryS_T) (c_156 : laws_eqKidRunS_T) (a_Rv : Int) (a_Clock : Int) (a_Owner : Int) (a_Lost : Bool) (a_Regs : List Int) (a_Start : List (List Int)) (a_Buf : List (List Int)) (a_Order : List Int) (a_Reads : List (List Int)) (a_Kids : List (List PM.C)) (b_Rv : Int) (b_Clock : Int) (b_Owner : Int) (b_Lost : Bool) (b_Regs : List Int) (b_Start : List (List Int)) (b_Buf : List (List Int)) (b_Order : List Int) (b_Reads : List (List Int)) (b_Kids : List (List PM.C)) (k : (Bool) → PM.R) : PM.R :=
  bif (A.not (A.eq a_Rv b_Rv)) then
    k false
  else
    bif (A.not (A.eq a_Clock b_Clock)) then
      k false
    else
      bif (A.not (A.eq a_Owner b_Owner)) then
        k false
      else
        bif (A.not (A.beq a_Lost b_Lost)) then
          k false
        else
          c_40 a_Regs b_Regs (fun r1 =>
            bif (A.not r1) then
              k false
            else
              c_66 a_Start b_Start (fun r2 =>
                bif (A.not r2) then
                  k false
                else
                  c_155 a_Buf b_Buf (fun r3 =>
                    bif (A.not r3) then
                      k false
                    else
                      c_40 a_Order b_Order (fun r4 =>
                        bif (A.not r4) then
                          k false
                        else
                          c_66 a_Reads b_Reads (fun r5 =>
                            bif (A.not r5) then
                              k false
                            else
                              c_156 a_Kids b_Kids (fun r6 =>
                                bif (A.not r6) then
                                  k false
                                else
                                  k true))))))
noncomputable def laws_eqFamily (A : PM.Prims) : laws_eqFamily_T := laws_eqFamily_f A (laws_eqIntS A) (laws_eqRowS A) (laws_eqEntryS A) (laws_eqKidRunS A)
noncomputable def laws_eqFamily_L (A : PM.Prims) (c_40 : laws_eqIntS_T) (c_66 : laws_eqRowS_T) (c_155 : laws_eqEntryS_T) (c_156 : laws_eqKidRunS_T) (n : Nat) : PM.Lam := fun cur σ K =>
  match cur, σ, K with
  | _, _, _ => none
noncomputable def laws_eqFamily_E (A : PM.Prims) (c_40 : laws_eqIntS_T) (c_66 : laws_eqRowS_T) (c_155 : laws_eqEntryS_T) (c_156 : laws_eqKidRunS_T) : PM.Env := ⟨[(40, ⟨[], laws_eqIntS_w c_40, none⟩), (66, ⟨[], laws_eqRowS_w c_66, none⟩), (155, ⟨[], laws_eqEntryS_w c_155, none⟩), (156, ⟨[], laws_eqKidRunS_w c_156, none⟩)], [], [], [(0, [2, 3]), (1, [2, 3, 9]), (2, [4]), (3, [2, 3, 14]), (4, [4]), (5, [2, 3, 19]), (6, [4]), (7, [2, 3, 24]), (8, [4]), (9, [2, 3, 30]), (10, [4]), (11, [2, 3, 36]), (12, [4]), (13, [2, 3, 42]), (14, [4]), (15, [2, 3, 48]), (16, [4]), (17, [2, 3, 54]), (18, [4]), (19, [60]), (20, [4]), (21, [4])], laws_eqFamily_L A c_40 c_66 c_155 c_156 A.fuel⟩
theorem laws_eqFamily_ok (A : PM.Prims) (c_40 : laws_eqIntS_T) (c_66 : laws_eqRowS_T) (c_155 : laws_eqEntryS_T) (c_156 : laws_eqKidRunS_T) (a_Rv : Int) (a_Clock : Int) (a_Owner : Int) (a_Lost : Bool) (a_Regs : List Int) (a_Start : List (List Int)) (a_Buf : List (List Int)) (a_Order : List Int) (a_Reads : List (List Int)) (a_Kids : List (List PM.C)) (b_Rv : Int) (b_Clock : Int) (b_Owner : Int) (b_Lost : Bool) (b_Regs : List Int) (b_Start : List (List Int)) (b_Buf : List (List Int)) (b_Order : List Int) (b_Reads : List (List Int)) (b_Kids : List (List PM.C)) (k : PM.V → PM.R) : PM.pfun A cx [] (laws_eqFamily_E A c_40 c_66 c_155 c_156) Go.Proofs.Try.f61 [.agg [.int .i64 a_Rv, .int .i64 a_Clock, .int .i64 a_Owner, .bool a_Lost, .arr (.ints 3 .i64 a_Regs), .arr (.vecs 161 2 a_Start), .arr (.vecs 225 3 a_Buf), .arr (.ints 3 .i64 a_Order), .arr (.vecs 161 2 a_Reads), .arr (.rows 214 a_Kids)], .agg [.int .i64 b_Rv, .int .i64 b_Clock, .int .i64 b_Owner, .bool b_Lost, .arr (.ints 3 .i64 b_Regs), .arr (.vecs 161 2 b_Start), .arr (.vecs 225 3 b_Buf), .arr (.ints 3 .i64 b_Order), .arr (.vecs 161 2 b_Reads), .arr (.rows 214 b_Kids)]] k = laws_eqFamily_f A c_40 c_66 c_155 c_156 a_Rv a_Clock a_Owner a_Lost a_Regs a_Start a_Buf a_Order a_Reads a_Kids b_Rv b_Clock b_Owner b_Lost b_Regs b_Start b_Buf b_Order b_Reads b_Kids (fun r0 => k (.bool r0)) := by kernel_rfl

theorem laws_eqFamily_fn : PM.FnIs Try.prog 61 Try.f61 := .of Try.func61 (by kernel_rfl) (by kernel_rfl)
theorem laws_eqFamily_g : PM.GOk Try.prog cx 61 ⟨[], laws_eqFamily_w (laws_eqFamily PM.std), none⟩ := by
  refine ⟨laws_eqFamily_fn.enter, fun _ ds k r h => ?_, fun hm => absurd rfl hm, fun _ e => (by cases e)⟩
  change laws_eqFamily_w (laws_eqFamily PM.std) ds k = some r at h
  unfold laws_eqFamily_w at h
  split at h
  · exact PM.pfun_ok (E := laws_eqFamily_E PM.std (laws_eqIntS PM.std) (laws_eqRowS PM.std) (laws_eqEntryS PM.std) (laws_eqKidRunS PM.std)) (L := fun n => laws_eqFamily_L PM.std (laws_eqIntS PM.std) (laws_eqRowS PM.std) (laws_eqEntryS PM.std) (laws_eqKidRunS PM.std) n) (N := PM.std.fuel) cx_ok (.cons laws_eqIntS_g (.cons laws_eqRowS_g (.cons laws_eqEntryS_g (.cons laws_eqKidRunS_g .nil)))) mixed .nil laws_eqFamily_fn (by kernel_rfl) ⟨rfl, fun _ _ _ => rfl, fun n cur σ K r h => by cases h⟩
      ((laws_eqFamily_ok PM.std (laws_eqIntS PM.std) (laws_eqRowS PM.std) (laws_eqEntryS PM.std) (laws_eqKidRunS PM.std) _ _ _ _ _ _ _ _ _ _ _ _ _ _ _ _ _ _ _ _ k).trans h)
  · cases h

abbrev laws_eqRoot_T := (Int) → (Int) → (Int) → (Int) → (Int) → (Int) → (Int) → (Int) → (Int) → (Int) → (Int) → (Bool) → (List Int) → (List (List Int)) → (List (List Int)) → (List (List PM.C)) → (List (List Int)) → (List Int) → (Bool) → (Int) → (Int) → (Int) → (Int) → (Int) → (Int) → (Int) → (Int) → (Int) → (List (List Int)) → (List Int) → (Int) → (Int) → (Int) → (Bool) → (List Int) → (List (List Int)) → (List (List Int)) → (List Int) → (List (List Int)) → (List (List PM.C)) → (Int) → (Int) → (Int) → (Int) → (Int) → (Int) → (Int) → (Int) → (Int) → (Int) → (Int) → (Bool) → (List Int) → (List (List Int)) → (List (List Int)) → (List (List PM.C)) → (List (List Int)) → (List Int) → (Bool) → (Int) → (Int) → (Int) → (Int) → (Int) → (Int) → (Int) → (Int) → (Int) → (List (List Int)) → (List Int) → (Int) → (Int) → (Int) → (Bool) → (List Int) → (List (List Int)) → (List (List Int)) → (List Int) → (List (List Int)) → (List (List PM.C)) → ((Bool) → PM.R) → PM.R
noncomputable def laws_eqRoot_w (c : laws_eqRoot_T) (ds : List PM.V) (k : PM.V → PM.R) : PM.R :=
  match ds with
  | [.agg (.int .i64 ___Phase :: .int .i64 ___Tries :: .int .i64 ___Spare :: .int .i64 ___Pc :: .int .i64 ___Rv :: .int .i64 ___NewRv :: .int .i64 ___At :: .int .i64 ___Fate :: .int .i64 ___Stamp :: .int .i64 ___Began :: .int .i64 ___Ended :: .bool ___Doomed :: .arr (.ints 3 .i64 ___Regs) :: .arr (.vecs 161 2 ___Reads) :: .arr (.vecs 161 2 ___Writes) :: .arr (.rows 396 ___Marks) :: .arr (.vecs 399 3 ___Undos) :: .arr (.ints 3 .i64 ___Order) :: .bool ___Busy :: .int .i64 ___Probe_Cell :: .int .i64 ___Probe_Phase :: .int .i64 ___Probe_Ver :: .int .i64 ___Probe_Val :: .int .i64 ___Commit_Who :: .int .i64 ___Commit_Rv :: .int .i64 ___Commit_Phase :: .int .i64 ___Commit_At :: .int .i64 ___Commit_Wv :: .arr (.vecs 161 2 ___Commit_Puts) :: .arr (.ints 3 .i64 ___Commit_Reads) :: .int .i64 ___Fam_Rv :: .int .i64 ___Fam_Clock :: .int .i64 ___Fam_Owner :: .bool ___Fam_Lost :: .arr (.ints 3 .i64 ___Fam_Regs) :: .arr (.vecs 161 2 ___Fam_Start) :: .arr (.vecs 225 3 ___Fam_Buf) :: .arr (.ints 3 .i64 ___Fam_Order) :: .arr (.vecs 161 2 ___Fam_Reads) :: .arr (.rows 214 ___Fam_Kids) :: []), .agg (.int .i64 a_Phase :: .int .i64 a_Tries :: .int .i64 a_Spare :: .int .i64 a_Pc :: .int .i64 a_Rv :: .int .i64 a_NewRv :: .int .i64 a_At :: .int .i64 a_Fate :: .int .i64 a_Stamp :: .int .i64 a_Began :: .int .i64 a_Ended :: .bool a_Doomed :: .arr (.ints 3 .i64 a_Regs) :: .arr (.vecs 161 2 a_Reads) :: .arr (.vecs 161 2 a_Writes) :: .arr (.rows 396 a_Marks) :: .arr (.vecs 399 3 a_Undos) :: .arr (.ints 3 .i64 a_Order) :: .bool a_Busy :: .int .i64 a_Probe_Cell :: .int .i64 a_Probe_Phase :: .int .i64 a_Probe_Ver :: .int .i64 a_Probe_Val :: .int .i64 a_Commit_Who :: .int .i64 a_Commit_Rv :: .int .i64 a_Commit_Phase :: .int .i64 a_Commit_At :: .int .i64 a_Commit_Wv :: .arr (.vecs 161 2 a_Commit_Puts) :: .arr (.ints 3 .i64 a_Commit_Reads) :: .int .i64 a_Fam_Rv :: .int .i64 a_Fam_Clock :: .int .i64 a_Fam_Owner :: .bool a_Fam_Lost :: .arr (.ints 3 .i64 a_Fam_Regs) :: .arr (.vecs 161 2 a_Fam_Start) :: .arr (.vecs 225 3 a_Fam_Buf) :: .arr (.ints 3 .i64 a_Fam_Order) :: .arr (.vecs 161 2 a_Fam_Reads) :: .arr (.rows 214 a_Fam_Kids) :: [])] => c ___Phase ___Tries ___Spare ___Pc ___Rv ___NewRv ___At ___Fate ___Stamp ___Began ___Ended ___Doomed ___Regs ___Reads ___Writes ___Marks ___Undos ___Order ___Busy ___Probe_Cell ___Probe_Phase ___Probe_Ver ___Probe_Val ___Commit_Who ___Commit_Rv ___Commit_Phase ___Commit_At ___Commit_Wv ___Commit_Puts ___Commit_Reads ___Fam_Rv ___Fam_Clock ___Fam_Owner ___Fam_Lost ___Fam_Regs ___Fam_Start ___Fam_Buf ___Fam_Order ___Fam_Reads ___Fam_Kids a_Phase a_Tries a_Spare a_Pc a_Rv a_NewRv a_At a_Fate a_Stamp a_Began a_Ended a_Doomed a_Regs a_Reads a_Writes a_Marks a_Undos a_Order a_Busy a_Probe_Cell a_Probe_Phase a_Probe_Ver a_Probe_Val a_Commit_Who a_Commit_Rv a_Commit_Phase a_Commit_At a_Commit_Wv a_Commit_Puts a_Commit_Reads a_Fam_Rv a_Fam_Clock a_Fam_Owner a_Fam_Lost a_Fam_Regs a_Fam_Start a_Fam_Buf a_Fam_Order a_Fam_Reads a_Fam_Kids (fun r0 => k (.bool r0))
  | _ => none
noncomputable def laws_eqRoot_f (A : PM.Prims) (c_40 : laws_eqIntS_T) (c_66 : laws_eqRowS_T) (c_272 : laws_eqMarkS_T) (c_273 : laws_eqUndoS_T) (c_274 : laws_eqProbe_T) (c_275 : laws_eqCommit_T) (c_61 : laws_eqFamily_T) (___Phase : Int) (___Tries : Int) (___Spare : Int) (___Pc : Int) (___Rv : Int) (___NewRv : Int) (___At : Int) (___Fate : Int) (___Stamp : Int) (___Began : Int) (___Ended : Int) (___Doomed : Bool) (___Regs : List Int) (___Reads : List (List Int)) (___Writes : List (List Int)) (___Marks : List (List PM.C)) (___Undos : List (List Int)) (___Order : List Int) (___Busy : Bool) (___Probe_Cell : Int) (___Probe_Phase : Int) (___Probe_Ver : Int) (___Probe_Val : Int) (___Commit_Who : Int) (___Commit_Rv : Int) (___Commit_Phase : Int) (___Commit_At : Int) (___Commit_Wv : Int) (___Commit_Puts : List (List Int)) (___Commit_Reads : List Int) (___Fam_Rv : Int) (___Fam_Clock : Int) (___Fam_Owner : Int) (___Fam_Lost : Bool) (___Fam_Regs : List Int) (___Fam_Start : List (List Int)) (___Fam_Buf : List (List Int)) (___Fam_Order : List Int) (___Fam_Reads : List (List Int)) (___Fam_Kids : List (List PM.C)) (a_Phase : Int) (a_Tries : Int) (a_Spare : Int) (a_Pc : Int) (a_Rv : Int) (a_NewRv : Int) (a_At : Int) (a_Fate : Int) (a_Stamp : Int) (a_Began : Int) (a_Ended : Int) (a_Doomed : Bool) (a_Regs : List Int) (a_Reads : List (List Int)) (a_Writes : List (List Int)) (a_Marks : List (List PM.C)) (a_Undos : List (List Int)) (a_Order : List Int) (a_Busy : Bool) (a_Probe_Cell : Int) (a_Probe_Phase : Int) (a_Probe_Ver : Int) (a_Probe_Val : Int) (a_Commit_Who : Int) (a_Commit_Rv : Int) (a_Commit_Phase : Int) (a_Commit_At : Int) (a_Commit_Wv : Int) (a_Commit_Puts : List (List Int)) (a_Commit_Reads : List Int) (a_Fam_Rv : Int) (a_Fam_Clock : Int) (a_Fam_Owner : Int) (a_Fam_Lost : Bool) (a_Fam_Regs : List Int) (a_Fam_Start : List (List Int)) (a_Fam_Buf : List (List Int)) (a_Fam_Order : List Int) (a_Fam_Reads : List (List Int)) (a_Fam_Kids : List (List PM.C)) (k : (Bool) → PM.R) : PM.R :=
  bif (A.not (A.eq ___Phase a_Phase)) then
    k false
  else
    bif (A.not (A.eq ___Tries a_Tries)) then
      k false
    else
      bif (A.not (A.eq ___Spare a_Spare)) then
        k false
      else
        bif (A.not (A.eq ___Pc a_Pc)) then
          k false
        else
          bif (A.not (A.eq ___Rv a_Rv)) then
            k false
          else
            bif (A.not (A.eq ___NewRv a_NewRv)) then
              k false
            else
              bif (A.not (A.eq ___At a_At)) then
                k false
              else
                bif (A.not (A.eq ___Fate a_Fate)) then
                  k false
                else
                  bif (A.not (A.eq ___Stamp a_Stamp)) then
                    k false
                  else
                    bif (A.not (A.eq ___Began a_Began)) then
                      k false
                    else
                      bif (A.not (A.eq ___Ended a_Ended)) then
                        k false
                      else
                        bif (A.not (A.beq ___Doomed a_Doomed)) then
                          k false
                        else
                          c_40 ___Regs a_Regs (fun r1 =>
                            bif (A.not r1) then
                              k false
                            else
                              c_66 ___Reads a_Reads (fun r2 =>
                                bif (A.not r2) then
                                  k false
                                else
                                  c_66 ___Writes a_Writes (fun r3 =>
                                    bif (A.not r3) then
                                      k false
                                    else
                                      c_272 ___Marks a_Marks (fun r4 =>
                                        bif (A.not r4) then
                                          k false
                                        else
                                          c_273 ___Undos a_Undos (fun r5 =>
                                            bif (A.not r5) then
                                              k false
                                            else
                                              c_40 ___Order a_Order (fun r6 =>
                                                bif (A.not r6) then
                                                  k false
                                                else
                                                  bif (A.not (A.beq ___Busy a_Busy)) then
                                                    k false
                                                  else
                                                    c_274 ___Probe_Cell ___Probe_Phase ___Probe_Ver ___Probe_Val a_Probe_Cell a_Probe_Phase a_Probe_Ver a_Probe_Val (fun r7 =>
                                                      bif (A.not r7) then
                                                        k false
                                                      else
                                                        c_275 ___Commit_Who ___Commit_Rv ___Commit_Phase ___Commit_At ___Commit_Wv ___Commit_Puts ___Commit_Reads a_Commit_Who a_Commit_Rv a_Commit_Phase a_Commit_At a_Commit_Wv a_Commit_Puts a_Commit_Reads (fun r8 =>
                                                          bif (A.not r8) then
                                                            k false
                                                          else
                                                            c_61 ___Fam_Rv ___Fam_Clock ___Fam_Owner ___Fam_Lost ___Fam_Regs ___Fam_Start ___Fam_Buf ___Fam_Order ___Fam_Reads ___Fam_Kids a_Fam_Rv a_Fam_Clock a_Fam_Owner a_Fam_Lost a_Fam_Regs a_Fam_Start a_Fam_Buf a_Fam_Order a_Fam_Reads a_Fam_Kids (fun r9 =>
                                                              bif (A.not r9) then
                                                                k false
                                                              else
                                                                k true)))))))))
noncomputable def laws_eqRoot (A : PM.Prims) : laws_eqRoot_T := laws_eqRoot_f A (laws_eqIntS A) (laws_eqRowS A) (laws_eqMarkS A) (laws_eqUndoS A) (laws_eqProbe A) (laws_eqCommit A) (laws_eqFamily A)
noncomputable def laws_eqRoot_L (A : PM.Prims) (c_40 : laws_eqIntS_T) (c_66 : laws_eqRowS_T) (c_272 : laws_eqMarkS_T) (c_273 : laws_eqUndoS_T) (c_274 : laws_eqProbe_T) (c_275 : laws_eqCommit_T) (c_61 : laws_eqFamily_T) (n : Nat) : PM.Lam := fun cur σ K =>
  match cur, σ, K with
  | _, _, _ => none
noncomputable def laws_eqRoot_E (A : PM.Prims) (c_40 : laws_eqIntS_T) (c_66 : laws_eqRowS_T) (c_272 : laws_eqMarkS_T) (c_273 : laws_eqUndoS_T) (c_274 : laws_eqProbe_T) (c_275 : laws_eqCommit_T) (c_61 : laws_eqFamily_T) : PM.Env := ⟨[(40, ⟨[], laws_eqIntS_w c_40, none⟩), (66, ⟨[], laws_eqRowS_w c_66, none⟩), (272, ⟨[], laws_eqMarkS_w c_272, none⟩), (273, ⟨[], laws_eqUndoS_w c_273, none⟩), (274, ⟨[], laws_eqProbe_w c_274, none⟩), (275, ⟨[], laws_eqCommit_w c_275, none⟩), (61, ⟨[], laws_eqFamily_w c_61, none⟩)], [], [], [(0, [2, 3]), (1, [2, 3, 9]), (2, [4]), (3, [2, 3, 14]), (4, [4]), (5, [2, 3, 19]), (6, [4]), (7, [2, 3, 24]), (8, [4]), (9, [2, 3, 29]), (10, [4]), (11, [2, 3, 34]), (12, [4]), (13, [2, 3, 39]), (14, [4]), (15, [2, 3, 44]), (16, [4]), (17, [2, 3, 49]), (18, [4]), (19, [2, 3, 54]), (20, [4]), (21, [2, 3, 59]), (22, [4]), (23, [2, 3, 64]), (24, [4]), (25, [2, 3, 70]), (26, [4]), (27, [2, 3, 76]), (28, [4]), (29, [2, 3, 82]), (30, [4]), (31, [2, 3, 88]), (32, [4]), (33, [2, 3, 94]), (34, [4]), (35, [2, 3, 100]), (36, [4]), (37, [2, 3, 105]), (38, [4]), (39, [2, 3, 111]), (40, [4]), (41, [2, 3, 117]), (42, [4]), (43, [123]), (44, [4]), (45, [4])], laws_eqRoot_L A c_40 c_66 c_272 c_273 c_274 c_275 c_61 A.fuel⟩
theorem laws_eqRoot_ok (A : PM.Prims) (c_40 : laws_eqIntS_T) (c_66 : laws_eqRowS_T) (c_272 : laws_eqMarkS_T) (c_273 : laws_eqUndoS_T) (c_274 : laws_eqProbe_T) (c_275 : laws_eqCommit_T) (c_61 : laws_eqFamily_T) (___Phase : Int) (___Tries : Int) (___Spare : Int) (___Pc : Int) (___Rv : Int) (___NewRv : Int) (___At : Int) (___Fate : Int) (___Stamp : Int) (___Began : Int) (___Ended : Int) (___Doomed : Bool) (___Regs : List Int) (___Reads : List (List Int)) (___Writes : List (List Int)) (___Marks : List (List PM.C)) (___Undos : List (List Int)) (___Order : List Int) (___Busy : Bool) (___Probe_Cell : Int) (___Probe_Phase : Int) (___Probe_Ver : Int) (___Probe_Val : Int) (___Commit_Who : Int) (___Commit_Rv : Int) (___Commit_Phase : Int) (___Commit_At : Int) (___Commit_Wv : Int) (___Commit_Puts : List (List Int)) (___Commit_Reads : List Int) (___Fam_Rv : Int) (___Fam_Clock : Int) (___Fam_Owner : Int) (___Fam_Lost : Bool) (___Fam_Regs : List Int) (___Fam_Start : List (List Int)) (___Fam_Buf : List (List Int)) (___Fam_Order : List Int) (___Fam_Reads : List (List Int)) (___Fam_Kids : List (List PM.C)) (a_Phase : Int) (a_Tries : Int) (a_Spare : Int) (a_Pc : Int) (a_Rv : Int) (a_NewRv : Int) (a_At : Int) (a_Fate : Int) (a_Stamp : Int) (a_Began : Int) (a_Ended : Int) (a_Doomed : Bool) (a_Regs : List Int) (a_Reads : List (List Int)) (a_Writes : List (List Int)) (a_Marks : List (List PM.C)) (a_Undos : List (List Int)) (a_Order : List Int) (a_Busy : Bool) (a_Probe_Cell : Int) (a_Probe_Phase : Int) (a_Probe_Ver : Int) (a_Probe_Val : Int) (a_Commit_Who : Int) (a_Commit_Rv : Int) (a_Commit_Phase : Int) (a_Commit_At : Int) (a_Commit_Wv : Int) (a_Commit_Puts : List (List Int)) (a_Commit_Reads : List Int) (a_Fam_Rv : Int) (a_Fam_Clock : Int) (a_Fam_Owner : Int) (a_Fam_Lost : Bool) (a_Fam_Regs : List Int) (a_Fam_Start : List (List Int)) (a_Fam_Buf : List (List Int)) (a_Fam_Order : List Int) (a_Fam_Reads : List (List Int)) (a_Fam_Kids : List (List PM.C)) (k : PM.V → PM.R) : PM.pfun A cx [] (laws_eqRoot_E A c_40 c_66 c_272 c_273 c_274 c_275 c_61) Go.Proofs.Try.f207 [.agg (.int .i64 ___Phase :: .int .i64 ___Tries :: .int .i64 ___Spare :: .int .i64 ___Pc :: .int .i64 ___Rv :: .int .i64 ___NewRv :: .int .i64 ___At :: .int .i64 ___Fate :: .int .i64 ___Stamp :: .int .i64 ___Began :: .int .i64 ___Ended :: .bool ___Doomed :: .arr (.ints 3 .i64 ___Regs) :: .arr (.vecs 161 2 ___Reads) :: .arr (.vecs 161 2 ___Writes) :: .arr (.rows 396 ___Marks) :: .arr (.vecs 399 3 ___Undos) :: .arr (.ints 3 .i64 ___Order) :: .bool ___Busy :: .int .i64 ___Probe_Cell :: .int .i64 ___Probe_Phase :: .int .i64 ___Probe_Ver :: .int .i64 ___Probe_Val :: .int .i64 ___Commit_Who :: .int .i64 ___Commit_Rv :: .int .i64 ___Commit_Phase :: .int .i64 ___Commit_At :: .int .i64 ___Commit_Wv :: .arr (.vecs 161 2 ___Commit_Puts) :: .arr (.ints 3 .i64 ___Commit_Reads) :: .int .i64 ___Fam_Rv :: .int .i64 ___Fam_Clock :: .int .i64 ___Fam_Owner :: .bool ___Fam_Lost :: .arr (.ints 3 .i64 ___Fam_Regs) :: .arr (.vecs 161 2 ___Fam_Start) :: .arr (.vecs 225 3 ___Fam_Buf) :: .arr (.ints 3 .i64 ___Fam_Order) :: .arr (.vecs 161 2 ___Fam_Reads) :: .arr (.rows 214 ___Fam_Kids) :: []), .agg (.int .i64 a_Phase :: .int .i64 a_Tries :: .int .i64 a_Spare :: .int .i64 a_Pc :: .int .i64 a_Rv :: .int .i64 a_NewRv :: .int .i64 a_At :: .int .i64 a_Fate :: .int .i64 a_Stamp :: .int .i64 a_Began :: .int .i64 a_Ended :: .bool a_Doomed :: .arr (.ints 3 .i64 a_Regs) :: .arr (.vecs 161 2 a_Reads) :: .arr (.vecs 161 2 a_Writes) :: .arr (.rows 396 a_Marks) :: .arr (.vecs 399 3 a_Undos) :: .arr (.ints 3 .i64 a_Order) :: .bool a_Busy :: .int .i64 a_Probe_Cell :: .int .i64 a_Probe_Phase :: .int .i64 a_Probe_Ver :: .int .i64 a_Probe_Val :: .int .i64 a_Commit_Who :: .int .i64 a_Commit_Rv :: .int .i64 a_Commit_Phase :: .int .i64 a_Commit_At :: .int .i64 a_Commit_Wv :: .arr (.vecs 161 2 a_Commit_Puts) :: .arr (.ints 3 .i64 a_Commit_Reads) :: .int .i64 a_Fam_Rv :: .int .i64 a_Fam_Clock :: .int .i64 a_Fam_Owner :: .bool a_Fam_Lost :: .arr (.ints 3 .i64 a_Fam_Regs) :: .arr (.vecs 161 2 a_Fam_Start) :: .arr (.vecs 225 3 a_Fam_Buf) :: .arr (.ints 3 .i64 a_Fam_Order) :: .arr (.vecs 161 2 a_Fam_Reads) :: .arr (.rows 214 a_Fam_Kids) :: [])] k = laws_eqRoot_f A c_40 c_66 c_272 c_273 c_274 c_275 c_61 ___Phase ___Tries ___Spare ___Pc ___Rv ___NewRv ___At ___Fate ___Stamp ___Began ___Ended ___Doomed ___Regs ___Reads ___Writes ___Marks ___Undos ___Order ___Busy ___Probe_Cell ___Probe_Phase ___Probe_Ver ___Probe_Val ___Commit_Who ___Commit_Rv ___Commit_Phase ___Commit_At ___Commit_Wv ___Commit_Puts ___Commit_Reads ___Fam_Rv ___Fam_Clock ___Fam_Owner ___Fam_Lost ___Fam_Regs ___Fam_Start ___Fam_Buf ___Fam_Order ___Fam_Reads ___Fam_Kids a_Phase a_Tries a_Spare a_Pc a_Rv a_NewRv a_At a_Fate a_Stamp a_Began a_Ended a_Doomed a_Regs a_Reads a_Writes a_Marks a_Undos a_Order a_Busy a_Probe_Cell a_Probe_Phase a_Probe_Ver a_Probe_Val a_Commit_Who a_Commit_Rv a_Commit_Phase a_Commit_At a_Commit_Wv a_Commit_Puts a_Commit_Reads a_Fam_Rv a_Fam_Clock a_Fam_Owner a_Fam_Lost a_Fam_Regs a_Fam_Start a_Fam_Buf a_Fam_Order a_Fam_Reads a_Fam_Kids (fun r0 => k (.bool r0)) := by kernel_rfl

theorem laws_eqRoot_fn : PM.FnIs Try.prog 207 Try.f207 := .of Try.func207 (by kernel_rfl) (by kernel_rfl)
theorem laws_eqRoot_g : PM.GOk Try.prog cx 207 ⟨[], laws_eqRoot_w (laws_eqRoot PM.std), none⟩ := by
  refine ⟨laws_eqRoot_fn.enter, fun _ ds k r h => ?_, fun hm => absurd rfl hm, fun _ e => (by cases e)⟩
  change laws_eqRoot_w (laws_eqRoot PM.std) ds k = some r at h
  unfold laws_eqRoot_w at h
  split at h
  · exact PM.pfun_ok (E := laws_eqRoot_E PM.std (laws_eqIntS PM.std) (laws_eqRowS PM.std) (laws_eqMarkS PM.std) (laws_eqUndoS PM.std) (laws_eqProbe PM.std) (laws_eqCommit PM.std) (laws_eqFamily PM.std)) (L := fun n => laws_eqRoot_L PM.std (laws_eqIntS PM.std) (laws_eqRowS PM.std) (laws_eqMarkS PM.std) (laws_eqUndoS PM.std) (laws_eqProbe PM.std) (laws_eqCommit PM.std) (laws_eqFamily PM.std) n) (N := PM.std.fuel) cx_ok (.cons laws_eqIntS_g (.cons laws_eqRowS_g (.cons laws_eqMarkS_g (.cons laws_eqUndoS_g (.cons laws_eqProbe_g (.cons laws_eqCommit_g (.cons laws_eqFamily_g .nil))))))) mixed .nil laws_eqRoot_fn (by kernel_rfl) ⟨rfl, fun _ _ _ => rfl, fun n cur σ K r h => by cases h⟩
      ((laws_eqRoot_ok PM.std (laws_eqIntS PM.std) (laws_eqRowS PM.std) (laws_eqMarkS PM.std) (laws_eqUndoS PM.std) (laws_eqProbe PM.std) (laws_eqCommit PM.std) (laws_eqFamily PM.std) _ _ _ _ _ _ _ _ _ _ _ _ _ _ _ _ _ _ _ _ _ _ _ _ _ _ _ _ _ _ _ _ _ _ _ _ _ _ _ _ _ _ _ _ _ _ _ _ _ _ _ _ _ _ _ _ _ _ _ _ _ _ _ _ _ _ _ _ _ _ _ _ _ _ _ _ _ _ _ _ k).trans h)
  · cases h

abbrev laws_eqRootS_T := (List (List PM.C)) → (List (List PM.C)) → ((Bool) → PM.R) → PM.R
noncomputable def laws_eqRootS_w (c : laws_eqRootS_T) (ds : List PM.V) (k : PM.V → PM.R) : PM.R :=
  match ds with
  | [.arr (.rows 175 a), .arr (.rows 175 b)] => c a b (fun r0 => k (.bool r0))
  | _ => none
noncomputable def laws_eqRootS_l0 (A : PM.Prims) (c_207 : laws_eqRoot_T) : Nat → (List (List C)) → (List (List C)) → (Int) → ((Bool) → PM.R) → (Unit → PM.R) → PM.R
  | 0, _, _, _, _, _ => none
  | n + 1, a1, b2, i3, kret_0, kx0_0 =>
    bif (A.lt i3 (A.rlen a1)) then
      bif (A.inb i3 (A.rlen a1)) then
        bif (A.inb i3 (A.rlen b2)) then
          c_207 (A.rint a1 i3 0) (A.rint a1 i3 1) (A.rint a1 i3 2) (A.rint a1 i3 3) (A.rint a1 i3 4) (A.rint a1 i3 5) (A.rint a1 i3 6) (A.rint a1 i3 7) (A.rint a1 i3 8) (A.rint a1 i3 9) (A.rint a1 i3 10) (A.rbool a1 i3 11) (A.rsi a1 i3 12) (A.rsv 2 a1 i3 13) (A.rsv 2 a1 i3 14) (A.rsr a1 i3 15) (A.rsv 3 a1 i3 16) (A.rsi a1 i3 17) (A.rbool a1 i3 18) (A.rint a1 i3 19) (A.rint a1 i3 20) (A.rint a1 i3 21) (A.rint a1 i3 22) (A.rint a1 i3 23) (A.rint a1 i3 24) (A.rint a1 i3 25) (A.rint a1 i3 26) (A.rint a1 i3 27) (A.rsv 2 a1 i3 28) (A.rsi a1 i3 29) (A.rint a1 i3 30) (A.rint a1 i3 31) (A.rint a1 i3 32) (A.rbool a1 i3 33) (A.rsi a1 i3 34) (A.rsv 2 a1 i3 35) (A.rsv 3 a1 i3 36) (A.rsi a1 i3 37) (A.rsv 2 a1 i3 38) (A.rsr a1 i3 39) (A.rint b2 i3 0) (A.rint b2 i3 1) (A.rint b2 i3 2) (A.rint b2 i3 3) (A.rint b2 i3 4) (A.rint b2 i3 5) (A.rint b2 i3 6) (A.rint b2 i3 7) (A.rint b2 i3 8) (A.rint b2 i3 9) (A.rint b2 i3 10) (A.rbool b2 i3 11) (A.rsi b2 i3 12) (A.rsv 2 b2 i3 13) (A.rsv 2 b2 i3 14) (A.rsr b2 i3 15) (A.rsv 3 b2 i3 16) (A.rsi b2 i3 17) (A.rbool b2 i3 18) (A.rint b2 i3 19) (A.rint b2 i3 20) (A.rint b2 i3 21) (A.rint b2 i3 22) (A.rint b2 i3 23) (A.rint b2 i3 24) (A.rint b2 i3 25) (A.rint b2 i3 26) (A.rint b2 i3 27) (A.rsv 2 b2 i3 28) (A.rsi b2 i3 29) (A.rint b2 i3 30) (A.rint b2 i3 31) (A.rint b2 i3 32) (A.rbool b2 i3 33) (A.rsi b2 i3 34) (A.rsv 2 b2 i3 35) (A.rsv 3 b2 i3 36) (A.rsi b2 i3 37) (A.rsv 2 b2 i3 38) (A.rsr b2 i3 39) (fun r4 =>
            bif (A.not r4) then
              kret_0 false
            else
              laws_eqRootS_l0 A c_207 n a1 b2 (A.add .i64 i3 1) kret_0 kx0_0)
        else
          none
      else
        none
    else
      kx0_0 ()
noncomputable def laws_eqRootS_f (A : PM.Prims) (c_207 : laws_eqRoot_T) (a : List (List PM.C)) (b : List (List PM.C)) (k : (Bool) → PM.R) : PM.R :=
  bif (A.not (A.eq (A.rlen a) (A.rlen b))) then
    k false
  else
    laws_eqRootS_l0 A c_207 A.fuel a b 0 (fun t456 =>
      k t456) (fun _ =>
      k true)
noncomputable def laws_eqRootS (A : PM.Prims) : laws_eqRootS_T := laws_eqRootS_f A (laws_eqRoot A)
noncomputable def laws_eqRootS_L (A : PM.Prims) (c_207 : laws_eqRoot_T) (n : Nat) : PM.Lam := fun cur σ K =>
  match cur, σ, K with
  | 0, ⟨[(0, .arr (.rows 175 a1)), (1, .arr (.rows 175 b2)), (5, .int .i64 i3)], []⟩, K => laws_eqRootS_l0 A c_207 n a1 b2 i3 (fun t45 => K .ret ⟨[(4, .bool t45)], []⟩) (fun _ => K (.exit 0) ⟨[], []⟩)
  | _, _, _ => none
noncomputable def laws_eqRootS_E (A : PM.Prims) (c_207 : laws_eqRoot_T) : PM.Env := ⟨[(207, ⟨[], laws_eqRoot_w c_207, none⟩)], [], [(0, [0, 1, 5], [4])], [(0, [0, 1]), (1, [0, 1, 10]), (2, [4]), (3, [0, 1, 5]), (4, [0, 1, 5, 14]), (5, [0, 1, 5]), (6, [0, 1, 5, 26]), (7, [4]), (8, [4])], laws_eqRootS_L A c_207 A.fuel⟩
theorem laws_eqRootS_l0_ok (A : PM.Prims) (c_207 : laws_eqRoot_T) (n : Nat) (a1 : List (List C)) (b2 : List (List C)) (i3 : Int) (K : Go.Exit → PM.S → PM.R) : laws_eqRootS_L A c_207 (n + 1) 0 ⟨[(0, .arr (.rows 175 a1)), (1, .arr (.rows 175 b2)), (5, .int .i64 i3)], []⟩ K = PM.roundF A cx (PM.runD A cx (laws_eqRootS_E A c_207).inl (laws_eqRootS_E A c_207).Γ 3) (laws_eqRootS_E A c_207) (laws_eqRootS_L A c_207 n) 0 Go.Proofs.Try.f121 ⟨[(0, .arr (.rows 175 a1)), (1, .arr (.rows 175 b2)), (5, .int .i64 i3)], []⟩ K := by kernel_rfl
theorem laws_eqRootS_ok (A : PM.Prims) (c_207 : laws_eqRoot_T) (a : List (List PM.C)) (b : List (List PM.C)) (k : PM.V → PM.R) : PM.pfun A cx [] (laws_eqRootS_E A c_207) Go.Proofs.Try.f121 [.arr (.rows 175 a), .arr (.rows 175 b)] k = laws_eqRootS_f A c_207 a b (fun r0 => k (.bool r0)) := by kernel_rfl

theorem laws_eqRootS_fn : PM.FnIs Try.prog 121 Try.f121 := .of Try.func121 (by kernel_rfl) (by kernel_rfl)
theorem laws_eqRootS_g : PM.GOk Try.prog cx 121 ⟨[], laws_eqRootS_w (laws_eqRootS PM.std), none⟩ := by
  refine ⟨laws_eqRootS_fn.enter, fun _ ds k r h => ?_, fun hm => absurd rfl hm, fun _ e => (by cases e)⟩
  change laws_eqRootS_w (laws_eqRootS PM.std) ds k = some r at h
  unfold laws_eqRootS_w at h
  split at h
  · exact PM.pfun_ok (E := laws_eqRootS_E PM.std (laws_eqRoot PM.std)) (L := fun n => laws_eqRootS_L PM.std (laws_eqRoot PM.std) n) (N := PM.std.fuel) cx_ok (.cons laws_eqRoot_g .nil) mixed .nil laws_eqRootS_fn (by kernel_rfl) ⟨rfl, fun cur σ K => by
      dsimp only [laws_eqRootS_L]
      split <;> rfl, fun n cur σ K r h => by
      dsimp only [laws_eqRootS_L] at h
      split at h
      · exact (laws_eqRootS_l0_ok PM.std (laws_eqRoot PM.std) n _ _ _ K).symm.trans h
      · cases h⟩
      ((laws_eqRootS_ok PM.std (laws_eqRoot PM.std) _ _ k).trans h)
  · cases h

abbrev laws_eqWrote_T := (Int) → (Int) → (List (List Int)) → (Int) → (Int) → (List (List Int)) → ((Bool) → PM.R) → PM.R
noncomputable def laws_eqWrote_w (c : laws_eqWrote_T) (ds : List PM.V) (k : PM.V → PM.R) : PM.R :=
  match ds with
  | [.agg [.int .i64 a_Stamp, .int .i64 a_Who, .arr (.vecs 161 2 a_Puts)], .agg [.int .i64 b_Stamp, .int .i64 b_Who, .arr (.vecs 161 2 b_Puts)]] => c a_Stamp a_Who a_Puts b_Stamp b_Who b_Puts (fun r0 => k (.bool r0))
  | _ => none
noncomputable def laws_eqWrote_f (A : PM.Prims) (c_66 : laws_eqRowS_T) (a_Stamp : Int) (a_Who : Int) (a_Puts : List (List Int)) (b_Stamp : Int) (b_Who : Int) (b_Puts : List (List Int)) (k : (Bool) → PM.R) : PM.R :=
  bif (A.not (A.eq a_Stamp b_Stamp)) then
    k false
  else
    bif (A.not (A.eq a_Who b_Who)) then
      k false
    else
      c_66 a_Puts b_Puts (fun r1 =>
        bif (A.not r1) then
          k false
        else
          k true)
noncomputable def laws_eqWrote (A : PM.Prims) : laws_eqWrote_T := laws_eqWrote_f A (laws_eqRowS A)
noncomputable def laws_eqWrote_L (A : PM.Prims) (c_66 : laws_eqRowS_T) (n : Nat) : PM.Lam := fun cur σ K =>
  match cur, σ, K with
  | _, _, _ => none
noncomputable def laws_eqWrote_E (A : PM.Prims) (c_66 : laws_eqRowS_T) : PM.Env := ⟨[(66, ⟨[], laws_eqRowS_w c_66, none⟩)], [], [], [(0, [2, 3]), (1, [2, 3, 9]), (2, [4]), (3, [2, 3, 14]), (4, [4]), (5, [20]), (6, [4]), (7, [4])], laws_eqWrote_L A c_66 A.fuel⟩
theorem laws_eqWrote_ok (A : PM.Prims) (c_66 : laws_eqRowS_T) (a_Stamp : Int) (a_Who : Int) (a_Puts : List (List Int)) (b_Stamp : Int) (b_Who : Int) (b_Puts : List (List Int)) (k : PM.V → PM.R) : PM.pfun A cx [] (laws_eqWrote_E A c_66) Go.Proofs.Try.f138 [.agg [.int .i64 a_Stamp, .int .i64 a_Who, .arr (.vecs 161 2 a_Puts)], .agg [.int .i64 b_Stamp, .int .i64 b_Who, .arr (.vecs 161 2 b_Puts)]] k = laws_eqWrote_f A c_66 a_Stamp a_Who a_Puts b_Stamp b_Who b_Puts (fun r0 => k (.bool r0)) := by kernel_rfl

theorem laws_eqWrote_fn : PM.FnIs Try.prog 138 Try.f138 := .of Try.func138 (by kernel_rfl) (by kernel_rfl)
theorem laws_eqWrote_g : PM.GOk Try.prog cx 138 ⟨[], laws_eqWrote_w (laws_eqWrote PM.std), none⟩ := by
  refine ⟨laws_eqWrote_fn.enter, fun _ ds k r h => ?_, fun hm => absurd rfl hm, fun _ e => (by cases e)⟩
  change laws_eqWrote_w (laws_eqWrote PM.std) ds k = some r at h
  unfold laws_eqWrote_w at h
  split at h
  · exact PM.pfun_ok (E := laws_eqWrote_E PM.std (laws_eqRowS PM.std)) (L := fun n => laws_eqWrote_L PM.std (laws_eqRowS PM.std) n) (N := PM.std.fuel) cx_ok (.cons laws_eqRowS_g .nil) mixed .nil laws_eqWrote_fn (by kernel_rfl) ⟨rfl, fun _ _ _ => rfl, fun n cur σ K r h => by cases h⟩
      ((laws_eqWrote_ok PM.std (laws_eqRowS PM.std) _ _ _ _ _ _ k).trans h)
  · cases h

abbrev laws_eqWroteS_T := (List (List PM.C)) → (List (List PM.C)) → ((Bool) → PM.R) → PM.R
noncomputable def laws_eqWroteS_w (c : laws_eqWroteS_T) (ds : List PM.V) (k : PM.V → PM.R) : PM.R :=
  match ds with
  | [.arr (.rows 33 a), .arr (.rows 33 b)] => c a b (fun r0 => k (.bool r0))
  | _ => none
noncomputable def laws_eqWroteS_l0 (A : PM.Prims) (c_138 : laws_eqWrote_T) : Nat → (List (List C)) → (List (List C)) → (Int) → ((Bool) → PM.R) → (Unit → PM.R) → PM.R
  | 0, _, _, _, _, _ => none
  | n + 1, a1, b2, i3, kret_0, kx0_0 =>
    bif (A.lt i3 (A.rlen a1)) then
      bif (A.inb i3 (A.rlen a1)) then
        bif (A.inb i3 (A.rlen b2)) then
          c_138 (A.rint a1 i3 0) (A.rint a1 i3 1) (A.rsv 2 a1 i3 2) (A.rint b2 i3 0) (A.rint b2 i3 1) (A.rsv 2 b2 i3 2) (fun r4 =>
            bif (A.not r4) then
              kret_0 false
            else
              laws_eqWroteS_l0 A c_138 n a1 b2 (A.add .i64 i3 1) kret_0 kx0_0)
        else
          none
      else
        none
    else
      kx0_0 ()
noncomputable def laws_eqWroteS_f (A : PM.Prims) (c_138 : laws_eqWrote_T) (a : List (List PM.C)) (b : List (List PM.C)) (k : (Bool) → PM.R) : PM.R :=
  bif (A.not (A.eq (A.rlen a) (A.rlen b))) then
    k false
  else
    laws_eqWroteS_l0 A c_138 A.fuel a b 0 (fun t456 =>
      k t456) (fun _ =>
      k true)
noncomputable def laws_eqWroteS (A : PM.Prims) : laws_eqWroteS_T := laws_eqWroteS_f A (laws_eqWrote A)
noncomputable def laws_eqWroteS_L (A : PM.Prims) (c_138 : laws_eqWrote_T) (n : Nat) : PM.Lam := fun cur σ K =>
  match cur, σ, K with
  | 0, ⟨[(0, .arr (.rows 33 a1)), (1, .arr (.rows 33 b2)), (5, .int .i64 i3)], []⟩, K => laws_eqWroteS_l0 A c_138 n a1 b2 i3 (fun t45 => K .ret ⟨[(4, .bool t45)], []⟩) (fun _ => K (.exit 0) ⟨[], []⟩)
  | _, _, _ => none
noncomputable def laws_eqWroteS_E (A : PM.Prims) (c_138 : laws_eqWrote_T) : PM.Env := ⟨[(138, ⟨[], laws_eqWrote_w c_138, none⟩)], [], [(0, [0, 1, 5], [4])], [(0, [0, 1]), (1, [0, 1, 10]), (2, [4]), (3, [0, 1, 5]), (4, [0, 1, 5, 14]), (5, [0, 1, 5]), (6, [0, 1, 5, 26]), (7, [4]), (8, [4])], laws_eqWroteS_L A c_138 A.fuel⟩
theorem laws_eqWroteS_l0_ok (A : PM.Prims) (c_138 : laws_eqWrote_T) (n : Nat) (a1 : List (List C)) (b2 : List (List C)) (i3 : Int) (K : Go.Exit → PM.S → PM.R) : laws_eqWroteS_L A c_138 (n + 1) 0 ⟨[(0, .arr (.rows 33 a1)), (1, .arr (.rows 33 b2)), (5, .int .i64 i3)], []⟩ K = PM.roundF A cx (PM.runD A cx (laws_eqWroteS_E A c_138).inl (laws_eqWroteS_E A c_138).Γ 3) (laws_eqWroteS_E A c_138) (laws_eqWroteS_L A c_138 n) 0 Go.Proofs.Try.f45 ⟨[(0, .arr (.rows 33 a1)), (1, .arr (.rows 33 b2)), (5, .int .i64 i3)], []⟩ K := by kernel_rfl
theorem laws_eqWroteS_ok (A : PM.Prims) (c_138 : laws_eqWrote_T) (a : List (List PM.C)) (b : List (List PM.C)) (k : PM.V → PM.R) : PM.pfun A cx [] (laws_eqWroteS_E A c_138) Go.Proofs.Try.f45 [.arr (.rows 33 a), .arr (.rows 33 b)] k = laws_eqWroteS_f A c_138 a b (fun r0 => k (.bool r0)) := by kernel_rfl

theorem laws_eqWroteS_fn : PM.FnIs Try.prog 45 Try.f45 := .of Try.func45 (by kernel_rfl) (by kernel_rfl)
theorem laws_eqWroteS_g : PM.GOk Try.prog cx 45 ⟨[], laws_eqWroteS_w (laws_eqWroteS PM.std), none⟩ := by
  refine ⟨laws_eqWroteS_fn.enter, fun _ ds k r h => ?_, fun hm => absurd rfl hm, fun _ e => (by cases e)⟩
  change laws_eqWroteS_w (laws_eqWroteS PM.std) ds k = some r at h
  unfold laws_eqWroteS_w at h
  split at h
  · exact PM.pfun_ok (E := laws_eqWroteS_E PM.std (laws_eqWrote PM.std)) (L := fun n => laws_eqWroteS_L PM.std (laws_eqWrote PM.std) n) (N := PM.std.fuel) cx_ok (.cons laws_eqWrote_g .nil) mixed .nil laws_eqWroteS_fn (by kernel_rfl) ⟨rfl, fun cur σ K => by
      dsimp only [laws_eqWroteS_L]
      split <;> rfl, fun n cur σ K r h => by
      dsimp only [laws_eqWroteS_L] at h
      split at h
      · exact (laws_eqWroteS_l0_ok PM.std (laws_eqWrote PM.std) n _ _ _ K).symm.trans h
      · cases h⟩
      ((laws_eqWroteS_ok PM.std (laws_eqWrote PM.std) _ _ k).trans h)
  · cases h

abbrev laws_eqWorld_T := (Int) → (Int) → (Int) → (List (List Int)) → (List Int) → (Int) → (List (List Int)) → (List (List PM.C)) → (List (List PM.C)) → (Int) → (Int) → (Int) → (List (List Int)) → (List Int) → (Int) → (List (List Int)) → (List (List PM.C)) → (List (List PM.C)) → ((Bool) → PM.R) → PM.R
noncomputable def laws_eqWorld_w (c : laws_eqWorld_T) (ds : List PM.V) (k : PM.V → PM.R) : PM.R :=
  match ds with
  | [.agg [.int .i64 a_Now, .int .i64 a_Token, .int .i64 a_Mem_Clock, .arr (.vecs 287 3 a_Mem_Cells), .arr (.ints 3 .i64 a_Shelf_Slots), .int .i64 a_Shelf_Count, .arr (.vecs 275 3 a_Holds), .arr (.rows 175 a_Roots), .arr (.rows 33 a_Hist)], .agg [.int .i64 b_Now, .int .i64 b_Token, .int .i64 b_Mem_Clock, .arr (.vecs 287 3 b_Mem_Cells), .arr (.ints 3 .i64 b_Shelf_Slots), .int .i64 b_Shelf_Count, .arr (.vecs 275 3 b_Holds), .arr (.rows 175 b_Roots), .arr (.rows 33 b_Hist)]] => c a_Now a_Token a_Mem_Clock a_Mem_Cells a_Shelf_Slots a_Shelf_Count a_Holds a_Roots a_Hist b_Now b_Token b_Mem_Clock b_Mem_Cells b_Shelf_Slots b_Shelf_Count b_Holds b_Roots b_Hist (fun r0 => k (.bool r0))
  | _ => none
noncomputable def laws_eqWorld_f (A : PM.Prims) (c_118 : laws_eqMem_T) (c_119 : laws_eqShelf_T) (c_120 : laws_eqHoldS_T) (c_121 : laws_eqRootS_T) (c_45 : laws_eqWroteS_T) (a_Now : Int) (a_Token : Int) (a_Mem_Clock : Int) (a_Mem_Cells : List (List Int)) (a_Shelf_Slots : List Int) (a_Shelf_Count : Int) (a_Holds : List (List Int)) (a_Roots : List (List PM.C)) (a_Hist : List (List PM.C)) (b_Now : Int) (b_Token : Int) (b_Mem_Clock : Int) (b_Mem_Cells : List (List Int)) (b_Shelf_Slots : List Int) (b_Shelf_Count : Int) (b_Holds : List (List Int)) (b_Roots : List (List PM.C)) (b_Hist : List (List PM.C)) (k : (Bool) → PM.R) : PM.R :=
  bif (A.not (A.eq a_Now b_Now)) then
    k false
  else
    bif (A.not (A.eq a_Token b_Token)) then
      k false
    else
      c_118 a_Mem_Clock a_Mem_Cells b_Mem_Clock b_Mem_Cells (fun r1 =>
        bif (A.not r1) then
          k false
        else
          c_119 a_Shelf_Slots a_Shelf_Count b_Shelf_Slots b_Shelf_Count (fun r2 =>
            bif (A.not r2) then
              k false
            else
              c_120 a_Holds b_Holds (fun r3 =>
                bif (A.not r3) then
                  k false
                else
                  c_121 a_Roots b_Roots (fun r4 =>
                    bif (A.not r4) then
                      k false
                    else
                      c_45 a_Hist b_Hist (fun r5 =>
                        bif (A.not r5) then
                          k false
                        else
                          k true)))))
noncomputable def laws_eqWorld (A : PM.Prims) : laws_eqWorld_T := laws_eqWorld_f A (laws_eqMem A) (laws_eqShelf A) (laws_eqHoldS A) (laws_eqRootS A) (laws_eqWroteS A)
noncomputable def laws_eqWorld_L (A : PM.Prims) (c_118 : laws_eqMem_T) (c_119 : laws_eqShelf_T) (c_120 : laws_eqHoldS_T) (c_121 : laws_eqRootS_T) (c_45 : laws_eqWroteS_T) (n : Nat) : PM.Lam := fun cur σ K =>
  match cur, σ, K with
  | _, _, _ => none
noncomputable def laws_eqWorld_E (A : PM.Prims) (c_118 : laws_eqMem_T) (c_119 : laws_eqShelf_T) (c_120 : laws_eqHoldS_T) (c_121 : laws_eqRootS_T) (c_45 : laws_eqWroteS_T) : PM.Env := ⟨[(118, ⟨[], laws_eqMem_w c_118, none⟩), (119, ⟨[], laws_eqShelf_w c_119, none⟩), (120, ⟨[], laws_eqHoldS_w c_120, none⟩), (121, ⟨[], laws_eqRootS_w c_121, none⟩), (45, ⟨[], laws_eqWroteS_w c_45, none⟩)], [], [], [(0, [2, 3]), (1, [2, 3, 9]), (2, [4]), (3, [2, 3, 14]), (4, [4]), (5, [2, 3, 20]), (6, [4]), (7, [2, 3, 26]), (8, [4]), (9, [2, 3, 32]), (10, [4]), (11, [2, 3, 38]), (12, [4]), (13, [44]), (14, [4]), (15, [4])], laws_eqWorld_L A c_118 c_119 c_120 c_121 c_45 A.fuel⟩
theorem laws_eqWorld_ok (A : PM.Prims) (c_118 : laws_eqMem_T) (c_119 : laws_eqShelf_T) (c_120 : laws_eqHoldS_T) (c_121 : laws_eqRootS_T) (c_45 : laws_eqWroteS_T) (a_Now : Int) (a_Token : Int) (a_Mem_Clock : Int) (a_Mem_Cells : List (List Int)) (a_Shelf_Slots : List Int) (a_Shelf_Count : Int) (a_Holds : List (List Int)) (a_Roots : List (List PM.C)) (a_Hist : List (List PM.C)) (b_Now : Int) (b_Token : Int) (b_Mem_Clock : Int) (b_Mem_Cells : List (List Int)) (b_Shelf_Slots : List Int) (b_Shelf_Count : Int) (b_Holds : List (List Int)) (b_Roots : List (List PM.C)) (b_Hist : List (List PM.C)) (k : PM.V → PM.R) : PM.pfun A cx [] (laws_eqWorld_E A c_118 c_119 c_120 c_121 c_45) Go.Proofs.Try.f34 [.agg [.int .i64 a_Now, .int .i64 a_Token, .int .i64 a_Mem_Clock, .arr (.vecs 287 3 a_Mem_Cells), .arr (.ints 3 .i64 a_Shelf_Slots), .int .i64 a_Shelf_Count, .arr (.vecs 275 3 a_Holds), .arr (.rows 175 a_Roots), .arr (.rows 33 a_Hist)], .agg [.int .i64 b_Now, .int .i64 b_Token, .int .i64 b_Mem_Clock, .arr (.vecs 287 3 b_Mem_Cells), .arr (.ints 3 .i64 b_Shelf_Slots), .int .i64 b_Shelf_Count, .arr (.vecs 275 3 b_Holds), .arr (.rows 175 b_Roots), .arr (.rows 33 b_Hist)]] k = laws_eqWorld_f A c_118 c_119 c_120 c_121 c_45 a_Now a_Token a_Mem_Clock a_Mem_Cells a_Shelf_Slots a_Shelf_Count a_Holds a_Roots a_Hist b_Now b_Token b_Mem_Clock b_Mem_Cells b_Shelf_Slots b_Shelf_Count b_Holds b_Roots b_Hist (fun r0 => k (.bool r0)) := by kernel_rfl

theorem laws_eqWorld_fn : PM.FnIs Try.prog 34 Try.f34 := .of Try.func34 (by kernel_rfl) (by kernel_rfl)
theorem laws_eqWorld_g : PM.GOk Try.prog cx 34 ⟨[], laws_eqWorld_w (laws_eqWorld PM.std), none⟩ := by
  refine ⟨laws_eqWorld_fn.enter, fun _ ds k r h => ?_, fun hm => absurd rfl hm, fun _ e => (by cases e)⟩
  change laws_eqWorld_w (laws_eqWorld PM.std) ds k = some r at h
  unfold laws_eqWorld_w at h
  split at h
  · exact PM.pfun_ok (E := laws_eqWorld_E PM.std (laws_eqMem PM.std) (laws_eqShelf PM.std) (laws_eqHoldS PM.std) (laws_eqRootS PM.std) (laws_eqWroteS PM.std)) (L := fun n => laws_eqWorld_L PM.std (laws_eqMem PM.std) (laws_eqShelf PM.std) (laws_eqHoldS PM.std) (laws_eqRootS PM.std) (laws_eqWroteS PM.std) n) (N := PM.std.fuel) cx_ok (.cons laws_eqMem_g (.cons laws_eqShelf_g (.cons laws_eqHoldS_g (.cons laws_eqRootS_g (.cons laws_eqWroteS_g .nil))))) mixed .nil laws_eqWorld_fn (by kernel_rfl) ⟨rfl, fun _ _ _ => rfl, fun n cur σ K r h => by cases h⟩
      ((laws_eqWorld_ok PM.std (laws_eqMem PM.std) (laws_eqShelf PM.std) (laws_eqHoldS PM.std) (laws_eqRootS PM.std) (laws_eqWroteS PM.std) _ _ _ _ _ _ _ _ _ _ _ _ _ _ _ _ _ _ k).trans h)
  · cases h

abbrev laws_FnExactOver_T := (Int) → (Int) → (Int) → (List (List Int)) → (List Int) → (Int) → (List (List Int)) → (List (List PM.C)) → (List (List PM.C)) → ((Bool) → PM.R) → PM.R
noncomputable def laws_FnExactOver_w (c : laws_FnExactOver_T) (ds : List PM.V) (k : PM.V → PM.R) : PM.R :=
  match ds with
  | [.agg [.int .i64 aW_Now, .int .i64 aW_Token, .int .i64 aW_Mem_Clock, .arr (.vecs 354 3 aW_Mem_Cells), .arr (.ints 3 .i64 aW_Shelf_Slots), .int .i64 aW_Shelf_Count, .arr (.vecs 277 3 aW_Holds), .arr (.rows 272 aW_Roots), .arr (.rows 195 aW_Hist)]] => c aW_Now aW_Token aW_Mem_Clock aW_Mem_Cells aW_Shelf_Slots aW_Shelf_Count aW_Holds aW_Roots aW_Hist (fun r0 => k (.bool r0))
  | _ => none
noncomputable def laws_FnExactOver_f (A : PM.Prims) (c_30 : laws_szWorld_T) (c_32 : laws_toWorld_T) (c_31 : spec_Over_T) (c_33 : impl_Over_T) (c_34 : laws_eqWorld_T) (aW_Now : Int) (aW_Token : Int) (aW_Mem_Clock : Int) (aW_Mem_Cells : List (List Int)) (aW_Shelf_Slots : List Int) (aW_Shelf_Count : Int) (aW_Holds : List (List Int)) (aW_Roots : List (List PM.C)) (aW_Hist : List (List PM.C)) (k : (Bool) → PM.R) : PM.R :=
  c_30 aW_Now aW_Token aW_Mem_Clock aW_Mem_Cells aW_Shelf_Slots aW_Shelf_Count aW_Holds aW_Roots aW_Hist 1048576 (fun r1 =>
    bif (A.lt r1 0) then
      k true
    else
      c_32 aW_Now aW_Token aW_Mem_Clock aW_Mem_Cells aW_Shelf_Slots aW_Shelf_Count aW_Holds aW_Roots aW_Hist (fun r2 r3 r4 r5 r6 r7 r8 r9 r10 =>
        c_31 r2 r3 r4 r5 r6 r7 r8 r9 r10 (fun r11 =>
          c_32 aW_Now aW_Token aW_Mem_Clock aW_Mem_Cells aW_Shelf_Slots aW_Shelf_Count aW_Holds aW_Roots aW_Hist (fun r12 r13 r14 r15 r16 r17 r18 r19 r20 =>
            c_33 r12 r13 r14 r15 r16 r17 r18 r19 r20 (fun r21 =>
              bif (A.not (A.beq r21 r11)) then
                k false
              else
                c_32 aW_Now aW_Token aW_Mem_Clock aW_Mem_Cells aW_Shelf_Slots aW_Shelf_Count aW_Holds aW_Roots aW_Hist (fun r22 r23 r24 r25 r26 r27 r28 r29 r30 =>
                  c_34 r12 r13 r14 r15 r16 r17 r18 r19 r20 r22 r23 r24 r25 r26 r27 r28 r29 r30 (fun r31 =>
                    bif (A.not r31) then
                      k false
                    else
                      k true)))))))
noncomputable def laws_FnExactOver (A : PM.Prims) : laws_FnExactOver_T := laws_FnExactOver_f A (laws_szWorld A) (laws_toWorld A) (spec_Over A) (impl_Over A) (laws_eqWorld A)
noncomputable def laws_FnExactOver_L (A : PM.Prims) (c_30 : laws_szWorld_T) (c_32 : laws_toWorld_T) (c_31 : spec_Over_T) (c_33 : impl_Over_T) (c_34 : laws_eqWorld_T) (n : Nat) : PM.Lam := fun cur σ K =>
  match cur, σ, K with
  | _, _, _ => none
noncomputable def laws_FnExactOver_E (A : PM.Prims) (c_30 : laws_szWorld_T) (c_32 : laws_toWorld_T) (c_31 : spec_Over_T) (c_33 : impl_Over_T) (c_34 : laws_eqWorld_T) : PM.Env := ⟨[(30, ⟨[], laws_szWorld_w c_30, none⟩), (32, ⟨[], laws_toWorld_w c_32, none⟩), (31, ⟨[], spec_Over_w c_31, none⟩), (33, ⟨[], impl_Over_w c_33, none⟩), (34, ⟨[], laws_eqWorld_w c_34, none⟩)], [], [], [(0, [1]), (1, [1, 3]), (2, [1, 3]), (3, [1, 11]), (4, [2]), (5, [1, 4]), (6, [1, 4, 5]), (7, [1, 4, 5, 6]), (8, [1, 5, 21]), (9, [2]), (10, [26]), (11, [2]), (12, [2])], laws_FnExactOver_L A c_30 c_32 c_31 c_33 c_34 A.fuel⟩
theorem laws_FnExactOver_ok (A : PM.Prims) (c_30 : laws_szWorld_T) (c_32 : laws_toWorld_T) (c_31 : spec_Over_T) (c_33 : impl_Over_T) (c_34 : laws_eqWorld_T) (aW_Now : Int) (aW_Token : Int) (aW_Mem_Clock : Int) (aW_Mem_Cells : List (List Int)) (aW_Shelf_Slots : List Int) (aW_Shelf_Count : Int) (aW_Holds : List (List Int)) (aW_Roots : List (List PM.C)) (aW_Hist : List (List PM.C)) (k : PM.V → PM.R) : PM.pfun A cx [] (laws_FnExactOver_E A c_30 c_32 c_31 c_33 c_34) Go.Proofs.Try.f4 [.agg [.int .i64 aW_Now, .int .i64 aW_Token, .int .i64 aW_Mem_Clock, .arr (.vecs 354 3 aW_Mem_Cells), .arr (.ints 3 .i64 aW_Shelf_Slots), .int .i64 aW_Shelf_Count, .arr (.vecs 277 3 aW_Holds), .arr (.rows 272 aW_Roots), .arr (.rows 195 aW_Hist)]] k = laws_FnExactOver_f A c_30 c_32 c_31 c_33 c_34 aW_Now aW_Token aW_Mem_Clock aW_Mem_Cells aW_Shelf_Slots aW_Shelf_Count aW_Holds aW_Roots aW_Hist (fun r0 => k (.bool r0)) := by kernel_rfl

theorem laws_FnExactOver_fn : PM.FnIs Try.prog 4 Try.f4 := .of Try.func4 (by kernel_rfl) (by kernel_rfl)
theorem laws_FnExactOver_g : PM.GOk Try.prog cx 4 ⟨[], laws_FnExactOver_w (laws_FnExactOver PM.std), none⟩ := by
  refine ⟨laws_FnExactOver_fn.enter, fun _ ds k r h => ?_, fun hm => absurd rfl hm, fun _ e => (by cases e)⟩
  change laws_FnExactOver_w (laws_FnExactOver PM.std) ds k = some r at h
  unfold laws_FnExactOver_w at h
  split at h
  · exact PM.pfun_ok (E := laws_FnExactOver_E PM.std (laws_szWorld PM.std) (laws_toWorld PM.std) (spec_Over PM.std) (impl_Over PM.std) (laws_eqWorld PM.std)) (L := fun n => laws_FnExactOver_L PM.std (laws_szWorld PM.std) (laws_toWorld PM.std) (spec_Over PM.std) (impl_Over PM.std) (laws_eqWorld PM.std) n) (N := PM.std.fuel) cx_ok (.cons laws_szWorld_g (.cons laws_toWorld_g (.cons spec_Over_g (.cons impl_Over_g (.cons laws_eqWorld_g .nil))))) mixed .nil laws_FnExactOver_fn (by kernel_rfl) ⟨rfl, fun _ _ _ => rfl, fun n cur σ K r h => by cases h⟩
      ((laws_FnExactOver_ok PM.std (laws_szWorld PM.std) (laws_toWorld PM.std) (spec_Over PM.std) (impl_Over PM.std) (laws_eqWorld PM.std) _ _ _ _ _ _ _ _ _ k).trans h)
  · cases h

end X
