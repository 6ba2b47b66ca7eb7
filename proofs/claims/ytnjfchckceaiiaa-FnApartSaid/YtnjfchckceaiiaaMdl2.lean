/- Models of the functions, or plain laws about them; each theorem states its own conditions. -/
import Derived.Test.YtnjfchckceaiiaaMdlA
import Derived.Test.YtnjfchckceaiiaaL3
import Derived.Test.YtnjfchckceaiiaaL4
import Derived.Test.YtnjfchckceaiiaaProg
import Derived.KernelRfl
set_option linter.unusedVariables false
set_option linter.unusedSimpArgs false
open Go.Proofs
namespace X
open PM
set_option maxRecDepth 100000
set_option maxHeartbeats 4000000
abbrev spec_l16Any_T := (List Int) → (Int) → (Int) → ((List Int) → (Int) → (List Int) → (Int) → (Int) → PM.R) → PM.R
noncomputable def spec_l16Any_w (c : spec_l16Any_T) (ds : List PM.V) (k : PM.V → PM.R) : PM.R :=
  match ds with
  | [.tup [.arr (.ints 5 .u8 c_b), .int .i64 c_i, .int .i64 c_h]] => c c_b c_i c_h (fun r0_Slots r0_Count bx_b bx_i bx_h => k (.tup [.agg [.arr (.ints 3 .i64 r0_Slots), .int .i64 r0_Count], .tup [.arr (.ints 5 .u8 bx_b), .int .i64 bx_i, .int .i64 bx_h]]))
  | _ => none
noncomputable def spec_l16Any_f (A : PM.Prims) (c_43 : spec_l1Below_T) (c_46 : spec_l3Draw_T) (c_62 : spec_l15Some_T) (c_27 : spec_l15Any_T) (c_b : List Int) (c_i : Int) (c_h : Int) (k : (List Int) → (Int) → (List Int) → (Int) → (Int) → PM.R) : PM.R :=
  c_62 c_b c_i c_h (fun r1 r2 r3 r4 =>
    c_46 r2 r3 r4 (fun r5 r6 r7 r8 =>
      c_43 r6 r7 r8 20 (fun r9 r10 r11 r12 =>
        bif (A.eq r9 0) then
          c_27 r10 r11 r12 (fun r13 r14 r15 r16 =>
            k r13 r5 r14 r15 r16)
        else
          bif (A.eq r9 1) then
            k r1 65536 r10 r11 r12
          else
            k r1 r5 r10 r11 r12)))
noncomputable def spec_l16Any (A : PM.Prims) : spec_l16Any_T := spec_l16Any_f A (spec_l1Below A) (spec_l3Draw A) (spec_l15Some A) (spec_l15Any A)
noncomputable def spec_l16Any_L (A : PM.Prims) (c_43 : spec_l1Below_T) (c_46 : spec_l3Draw_T) (c_62 : spec_l15Some_T) (c_27 : spec_l15Any_T) (n : Nat) : PM.Lam := fun cur σ K =>
  match cur, σ, K with
  | _, _, _ => none
noncomputable def spec_l16Any_E (A : PM.Prims) (c_43 : spec_l1Below_T) (c_46 : spec_l3Draw_T) (c_62 : spec_l15Some_T) (c_27 : spec_l15Any_T) : PM.Env := ⟨[(43, ⟨[], fun _ _ => none, some (PM.spBox (spec_l1Below_w c_43))⟩), (46, ⟨[], fun _ _ => none, some (PM.spBox (spec_l3Draw_w c_46))⟩), (62, ⟨[], fun _ _ => none, some (PM.spBox (spec_l15Some_w c_62))⟩), (27, ⟨[], fun _ _ => none, some (PM.spBox (spec_l15Any_w c_27))⟩)], [], [], [(0, [0, 2]), (1, [0, 2, 3]), (2, [0, 2, 3, 10]), (3, [0, 2, 3, 10, 11]), (4, [0, 2, 3]), (5, [0, 2, 3, 16]), (6, [0, 2, 3]), (7, [0, 2])], spec_l16Any_L A c_43 c_46 c_62 c_27 A.fuel⟩
theorem spec_l16Any_ok (A : PM.Prims) (c_43 : spec_l1Below_T) (c_46 : spec_l3Draw_T) (c_62 : spec_l15Some_T) (c_27 : spec_l15Any_T) (c_b : List Int) (c_i : Int) (c_h : Int) (k : PM.V → PM.R) : PM.pfunB A cx (spec_l16Any_E A c_43 c_46 c_62 c_27) Go.Proofs.Try.f41 [.tup [.arr (.ints 5 .u8 c_b), .int .i64 c_i, .int .i64 c_h]] k = spec_l16Any_f A c_43 c_46 c_62 c_27 c_b c_i c_h (fun r0_Slots r0_Count bx_b bx_i bx_h => k (.tup [.agg [.arr (.ints 3 .i64 r0_Slots), .int .i64 r0_Count], .tup [.arr (.ints 5 .u8 bx_b), .int .i64 bx_i, .int .i64 bx_h]])) := by kernel_rfl

theorem spec_l16Any_fn : PM.FnIs Try.prog 41 Try.f41 := .of Try.func41 (by kernel_rfl) (by kernel_rfl)
theorem spec_l16Any_g : PM.GOk Try.prog cx 41 ⟨[], fun _ _ => none, some (PM.spBox (spec_l16Any_w (spec_l16Any PM.std)))⟩ := by
  refine PM.GOk.ofS spec_l16Any_fn.enter (PM.spBox_ok fun ds k r h => ?_)
  change spec_l16Any_w (spec_l16Any PM.std) ds k = some r at h
  unfold spec_l16Any_w at h
  split at h
  · exact PM.pfunB_ok (E := spec_l16Any_E PM.std (spec_l1Below PM.std) (spec_l3Draw PM.std) (spec_l15Some PM.std) (spec_l15Any PM.std)) (L := fun n => spec_l16Any_L PM.std (spec_l1Below PM.std) (spec_l3Draw PM.std) (spec_l15Some PM.std) (spec_l15Any PM.std) n) (N := PM.std.fuel) cx_ok (.cons spec_l1Below_g (.cons spec_l3Draw_g (.cons spec_l15Some_g (.cons spec_l15Any_g .nil)))) mixed .nil spec_l16Any_fn (by kernel_rfl) ⟨rfl, fun _ _ _ => rfl, fun n cur σ K r h => by cases h⟩
      ((spec_l16Any_ok PM.std (spec_l1Below PM.std) (spec_l3Draw PM.std) (spec_l15Some PM.std) (spec_l15Any PM.std) _ _ _ k).trans h)
  · cases h

abbrev spec_l4DrawReg_T := (List Int) → (Int) → (Int) → ((Int) → (List Int) → (Int) → (Int) → PM.R) → PM.R
noncomputable def spec_l4DrawReg_w (c : spec_l4DrawReg_T) (ds : List PM.V) (k : PM.V → PM.R) : PM.R :=
  match ds with
  | [.tup [.arr (.ints 5 .u8 c_b), .int .i64 c_i, .int .i64 c_h]] => c c_b c_i c_h (fun r0 bx_b bx_i bx_h => k (.tup [.int .i64 r0, .tup [.arr (.ints 5 .u8 bx_b), .int .i64 bx_i, .int .i64 bx_h]]))
  | _ => none
noncomputable def spec_l4DrawReg_f (A : PM.Prims) (c_43 : spec_l1Below_T) (c_b : List Int) (c_i : Int) (c_h : Int) (k : (Int) → (List Int) → (Int) → (Int) → PM.R) : PM.R :=
  c_43 c_b c_i c_h 4 (fun r1 r2 r3 r4 =>
    k r1 r2 r3 r4)
noncomputable def spec_l4DrawReg (A : PM.Prims) : spec_l4DrawReg_T := spec_l4DrawReg_f A (spec_l1Below A)
noncomputable def spec_l4DrawReg_L (A : PM.Prims) (c_43 : spec_l1Below_T) (n : Nat) : PM.Lam := fun cur σ K =>
  match cur, σ, K with
  | _, _, _ => none
noncomputable def spec_l4DrawReg_E (A : PM.Prims) (c_43 : spec_l1Below_T) : PM.Env := ⟨[(43, ⟨[], fun _ _ => none, some (PM.spBox (spec_l1Below_w c_43))⟩)], [], [], [(0, [0]), (1, [0, 2])], spec_l4DrawReg_L A c_43 A.fuel⟩
theorem spec_l4DrawReg_ok (A : PM.Prims) (c_43 : spec_l1Below_T) (c_b : List Int) (c_i : Int) (c_h : Int) (k : PM.V → PM.R) : PM.pfunB A cx (spec_l4DrawReg_E A c_43) Go.Proofs.Try.f66 [.tup [.arr (.ints 5 .u8 c_b), .int .i64 c_i, .int .i64 c_h]] k = spec_l4DrawReg_f A c_43 c_b c_i c_h (fun r0 bx_b bx_i bx_h => k (.tup [.int .i64 r0, .tup [.arr (.ints 5 .u8 bx_b), .int .i64 bx_i, .int .i64 bx_h]])) := by kernel_rfl

theorem spec_l4DrawReg_fn : PM.FnIs Try.prog 66 Try.f66 := .of Try.func66 (by kernel_rfl) (by kernel_rfl)
theorem spec_l4DrawReg_g : PM.GOk Try.prog cx 66 ⟨[], fun _ _ => none, some (PM.spBox (spec_l4DrawReg_w (spec_l4DrawReg PM.std)))⟩ := by
  refine PM.GOk.ofS spec_l4DrawReg_fn.enter (PM.spBox_ok fun ds k r h => ?_)
  change spec_l4DrawReg_w (spec_l4DrawReg PM.std) ds k = some r at h
  unfold spec_l4DrawReg_w at h
  split at h
  · exact PM.pfunB_ok (E := spec_l4DrawReg_E PM.std (spec_l1Below PM.std)) (L := fun n => spec_l4DrawReg_L PM.std (spec_l1Below PM.std) n) (N := PM.std.fuel) cx_ok (.cons spec_l1Below_g .nil) mixed .nil spec_l4DrawReg_fn (by kernel_rfl) ⟨rfl, fun _ _ _ => rfl, fun n cur σ K r h => by cases h⟩
      ((spec_l4DrawReg_ok PM.std (spec_l1Below PM.std) _ _ _ k).trans h)
  · cases h

abbrev spec_l4DrawCell_T := (List Int) → (Int) → (Int) → ((Int) → (List Int) → (Int) → (Int) → PM.R) → PM.R
noncomputable def spec_l4DrawCell_w (c : spec_l4DrawCell_T) (ds : List PM.V) (k : PM.V → PM.R) : PM.R :=
  match ds with
  | [.tup [.arr (.ints 5 .u8 c_b), .int .i64 c_i, .int .i64 c_h]] => c c_b c_i c_h (fun r0 bx_b bx_i bx_h => k (.tup [.int .i64 r0, .tup [.arr (.ints 5 .u8 bx_b), .int .i64 bx_i, .int .i64 bx_h]]))
  | _ => none
noncomputable def spec_l4DrawCell_f (A : PM.Prims) (c_43 : spec_l1Below_T) (c_44 : spec_l1Once_T) (c_b : List Int) (c_i : Int) (c_h : Int) (k : (Int) → (List Int) → (Int) → (Int) → PM.R) : PM.R :=
  c_44 c_b c_i c_h 8 (fun r1 r2 r3 r4 =>
    bif r1 then
      c_43 r2 r3 r4 8 (fun r5 r6 r7 r8 =>
        k r5 r6 r7 r8)
    else
      c_43 r2 r3 r4 3 (fun r9 r10 r11 r12 =>
        k r9 r10 r11 r12))
noncomputable def spec_l4DrawCell (A : PM.Prims) : spec_l4DrawCell_T := spec_l4DrawCell_f A (spec_l1Below A) (spec_l1Once A)
noncomputable def spec_l4DrawCell_L (A : PM.Prims) (c_43 : spec_l1Below_T) (c_44 : spec_l1Once_T) (n : Nat) : PM.Lam := fun cur σ K =>
  match cur, σ, K with
  | _, _, _ => none
noncomputable def spec_l4DrawCell_E (A : PM.Prims) (c_43 : spec_l1Below_T) (c_44 : spec_l1Once_T) : PM.Env := ⟨[(43, ⟨[], fun _ _ => none, some (PM.spBox (spec_l1Below_w c_43))⟩), (44, ⟨[], fun _ _ => none, some (PM.spBox (spec_l1Once_w c_44))⟩)], [], [], [(0, [0]), (1, [0, 4]), (2, [0, 2]), (3, [0, 2])], spec_l4DrawCell_L A c_43 c_44 A.fuel⟩
theorem spec_l4DrawCell_ok (A : PM.Prims) (c_43 : spec_l1Below_T) (c_44 : spec_l1Once_T) (c_b : List Int) (c_i : Int) (c_h : Int) (k : PM.V → PM.R) : PM.pfunB A cx (spec_l4DrawCell_E A c_43 c_44) Go.Proofs.Try.f67 [.tup [.arr (.ints 5 .u8 c_b), .int .i64 c_i, .int .i64 c_h]] k = spec_l4DrawCell_f A c_43 c_44 c_b c_i c_h (fun r0 bx_b bx_i bx_h => k (.tup [.int .i64 r0, .tup [.arr (.ints 5 .u8 bx_b), .int .i64 bx_i, .int .i64 bx_h]])) := by kernel_rfl

theorem spec_l4DrawCell_fn : PM.FnIs Try.prog 67 Try.f67 := .of Try.func67 (by kernel_rfl) (by kernel_rfl)
theorem spec_l4DrawCell_g : PM.GOk Try.prog cx 67 ⟨[], fun _ _ => none, some (PM.spBox (spec_l4DrawCell_w (spec_l4DrawCell PM.std)))⟩ := by
  refine PM.GOk.ofS spec_l4DrawCell_fn.enter (PM.spBox_ok fun ds k r h => ?_)
  change spec_l4DrawCell_w (spec_l4DrawCell PM.std) ds k = some r at h
  unfold spec_l4DrawCell_w at h
  split at h
  · exact PM.pfunB_ok (E := spec_l4DrawCell_E PM.std (spec_l1Below PM.std) (spec_l1Once PM.std)) (L := fun n => spec_l4DrawCell_L PM.std (spec_l1Below PM.std) (spec_l1Once PM.std) n) (N := PM.std.fuel) cx_ok (.cons spec_l1Below_g (.cons spec_l1Once_g .nil)) mixed .nil spec_l4DrawCell_fn (by kernel_rfl) ⟨rfl, fun _ _ _ => rfl, fun n cur σ K r h => by cases h⟩
      ((spec_l4DrawCell_ok PM.std (spec_l1Below PM.std) (spec_l1Once PM.std) _ _ _ k).trans h)
  · cases h

abbrev spec_l4DrawKey_T := (List Int) → (Int) → (Int) → ((Int) → (List Int) → (Int) → (Int) → PM.R) → PM.R
noncomputable def spec_l4DrawKey_w (c : spec_l4DrawKey_T) (ds : List PM.V) (k : PM.V → PM.R) : PM.R :=
  match ds with
  | [.tup [.arr (.ints 5 .u8 c_b), .int .i64 c_i, .int .i64 c_h]] => c c_b c_i c_h (fun r0 bx_b bx_i bx_h => k (.tup [.int .i64 r0, .tup [.arr (.ints 5 .u8 bx_b), .int .i64 bx_i, .int .i64 bx_h]]))
  | _ => none
noncomputable def spec_l4DrawKey_f (A : PM.Prims) (c_43 : spec_l1Below_T) (c_44 : spec_l1Once_T) (c_b : List Int) (c_i : Int) (c_h : Int) (k : (Int) → (List Int) → (Int) → (Int) → PM.R) : PM.R :=
  c_44 c_b c_i c_h 4 (fun r1 r2 r3 r4 =>
    bif r1 then
      c_43 r2 r3 r4 8 (fun r5 r6 r7 r8 =>
        k r5 r6 r7 r8)
    else
      c_43 r2 r3 r4 (A.ilen [0, 4, 1]) (fun r9 r10 r11 r12 =>
        bif (A.inb r9 (A.ilen [0, 4, 1])) then
          k (A.iget [0, 4, 1] r9) r10 r11 r12
        else
          none))
noncomputable def spec_l4DrawKey (A : PM.Prims) : spec_l4DrawKey_T := spec_l4DrawKey_f A (spec_l1Below A) (spec_l1Once A)
noncomputable def spec_l4DrawKey_L (A : PM.Prims) (c_43 : spec_l1Below_T) (c_44 : spec_l1Once_T) (n : Nat) : PM.Lam := fun cur σ K =>
  match cur, σ, K with
  | _, _, _ => none
noncomputable def spec_l4DrawKey_E (A : PM.Prims) (c_43 : spec_l1Below_T) (c_44 : spec_l1Once_T) : PM.Env := ⟨[(43, ⟨[], fun _ _ => none, some (PM.spBox (spec_l1Below_w c_43))⟩), (44, ⟨[], fun _ _ => none, some (PM.spBox (spec_l1Once_w c_44))⟩)], [(29, Go.Proofs.Try.f29)], [], [(0, [0]), (1, [0, 4]), (2, [0, 2]), (3, [0, 2])], spec_l4DrawKey_L A c_43 c_44 A.fuel⟩
theorem spec_l4DrawKey_ok (A : PM.Prims) (c_43 : spec_l1Below_T) (c_44 : spec_l1Once_T) (c_b : List Int) (c_i : Int) (c_h : Int) (k : PM.V → PM.R) : PM.pfunB A cx (spec_l4DrawKey_E A c_43 c_44) Go.Proofs.Try.f68 [.tup [.arr (.ints 5 .u8 c_b), .int .i64 c_i, .int .i64 c_h]] k = spec_l4DrawKey_f A c_43 c_44 c_b c_i c_h (fun r0 bx_b bx_i bx_h => k (.tup [.int .i64 r0, .tup [.arr (.ints 5 .u8 bx_b), .int .i64 bx_i, .int .i64 bx_h]])) := by kernel_rfl

theorem spec_l4DrawKey_fn : PM.FnIs Try.prog 68 Try.f68 := .of Try.func68 (by kernel_rfl) (by kernel_rfl)
theorem spec_l4DrawKey_g : PM.GOk Try.prog cx 68 ⟨[], fun _ _ => none, some (PM.spBox (spec_l4DrawKey_w (spec_l4DrawKey PM.std)))⟩ := by
  refine PM.GOk.ofS spec_l4DrawKey_fn.enter (PM.spBox_ok fun ds k r h => ?_)
  change spec_l4DrawKey_w (spec_l4DrawKey PM.std) ds k = some r at h
  unfold spec_l4DrawKey_w at h
  split at h
  · exact PM.pfunB_ok (E := spec_l4DrawKey_E PM.std (spec_l1Below PM.std) (spec_l1Once PM.std)) (L := fun n => spec_l4DrawKey_L PM.std (spec_l1Below PM.std) (spec_l1Once PM.std) n) (N := PM.std.fuel) cx_ok (.cons spec_l1Below_g (.cons spec_l1Once_g .nil)) mixed (.cons (.of Try.func29 (by kernel_rfl) (by kernel_rfl)) (by kernel_rfl) .nil) spec_l4DrawKey_fn (by kernel_rfl) ⟨rfl, fun _ _ _ => rfl, fun n cur σ K r h => by cases h⟩
      ((spec_l4DrawKey_ok PM.std (spec_l1Below PM.std) (spec_l1Once PM.std) _ _ _ k).trans h)
  · cases h

abbrev spec_l4Plain_T := (List Int) → (Int) → (Int) → (Int) → ((Int) → (Int) → (Int) → (Int) → (List Int) → (Int) → (Int) → PM.R) → PM.R
noncomputable def spec_l4Plain_w (c : spec_l4Plain_T) (ds : List PM.V) (k : PM.V → PM.R) : PM.R :=
  match ds with
  | [.tup [.arr (.ints 5 .u8 ___b), .int .i64 ___i, .int .i64 ___h], .int .i64 a] => c ___b ___i ___h a (fun r0_Kind r0_A r0_B r0_C bx_b bx_i bx_h => k (.tup [.agg [.int .i64 r0_Kind, .int .i64 r0_A, .int .i64 r0_B, .int .i64 r0_C], .tup [.arr (.ints 5 .u8 bx_b), .int .i64 bx_i, .int .i64 bx_h]]))
  | _ => none
noncomputable def spec_l4Plain_f (A : PM.Prims) (c_43 : spec_l1Below_T) (c_46 : spec_l3Draw_T) (c_66 : spec_l4DrawReg_T) (c_67 : spec_l4DrawCell_T) (c_68 : spec_l4DrawKey_T) (___b : List Int) (___i : Int) (___h : Int) (a : Int) (k : (Int) → (Int) → (Int) → (Int) → (List Int) → (Int) → (Int) → PM.R) : PM.R :=
  bif (A.eq a 1) then
    c_66 ___b ___i ___h (fun r1 r2 r3 r4 =>
      c_46 r2 r3 r4 (fun r5 r6 r7 r8 =>
        k a r1 r5 0 r6 r7 r8))
  else
    bif (A.eq a 2) then
      c_66 ___b ___i ___h (fun r9 r10 r11 r12 =>
        c_66 r10 r11 r12 (fun r13 r14 r15 r16 =>
          c_66 r14 r15 r16 (fun r17 r18 r19 r20 =>
            k a r9 r13 r17 r18 r19 r20)))
    else
      bif (A.eq a 3) then
        c_66 ___b ___i ___h (fun r21 r22 r23 r24 =>
          c_66 r22 r23 r24 (fun r25 r26 r27 r28 =>
            c_66 r26 r27 r28 (fun r29 r30 r31 r32 =>
              k a r21 r25 r29 r30 r31 r32)))
      else
        bif (A.eq a 4) then
          c_66 ___b ___i ___h (fun r33 r34 r35 r36 =>
            c_66 r34 r35 r36 (fun r37 r38 r39 r40 =>
              c_66 r38 r39 r40 (fun r41 r42 r43 r44 =>
                k a r33 r37 r41 r42 r43 r44)))
        else
          bif (A.eq a 5) then
            c_66 ___b ___i ___h (fun r45 r46 r47 r48 =>
              c_67 r46 r47 r48 (fun r49 r50 r51 r52 =>
                k a r45 r49 0 r50 r51 r52))
          else
            bif (A.eq a 6) then
              c_67 ___b ___i ___h (fun r53 r54 r55 r56 =>
                c_66 r54 r55 r56 (fun r57 r58 r59 r60 =>
                  k a r53 r57 0 r58 r59 r60))
            else
              bif (A.eq a 7) then
                c_66 ___b ___i ___h (fun r61 r62 r63 r64 =>
                  c_43 r62 r63 r64 3 (fun r65 r66 r67 r68 =>
                    k a r61 (A.add .i64 1 r65) 0 r66 r67 r68))
              else
                bif (A.eq a 8) then
                  c_66 ___b ___i ___h (fun r69 r70 r71 r72 =>
                    k a r69 0 0 r70 r71 r72)
                else
                  bif (A.eq a 15) then
                    c_66 ___b ___i ___h (fun r73 r74 r75 r76 =>
                      k a r73 0 0 r74 r75 r76)
                  else
                    bif (A.eq a 16) then
                      c_66 ___b ___i ___h (fun r77 r78 r79 r80 =>
                        k a r77 0 0 r78 r79 r80)
                    else
                      bif (A.eq a 12) then
                        c_68 ___b ___i ___h (fun r81 r82 r83 r84 =>
                          c_66 r82 r83 r84 (fun r85 r86 r87 r88 =>
                            c_66 r86 r87 r88 (fun r89 r90 r91 r92 =>
                              k a r81 r85 r89 r90 r91 r92)))
                      else
                        bif (A.eq a 13) then
                          c_66 ___b ___i ___h (fun r93 r94 r95 r96 =>
                            c_68 r94 r95 r96 (fun r97 r98 r99 r100 =>
                              k a r93 r97 0 r98 r99 r100))
                        else
                          bif (A.eq a 14) then
                            c_68 ___b ___i ___h (fun r101 r102 r103 r104 =>
                              c_66 r102 r103 r104 (fun r105 r106 r107 r108 =>
                                k a r101 r105 0 r106 r107 r108))
                          else
                            k a 0 0 0 ___b ___i ___h
noncomputable def spec_l4Plain (A : PM.Prims) : spec_l4Plain_T := spec_l4Plain_f A (spec_l1Below A) (spec_l3Draw A) (spec_l4DrawReg A) (spec_l4DrawCell A) (spec_l4DrawKey A)
noncomputable def spec_l4Plain_L (A : PM.Prims) (c_43 : spec_l1Below_T) (c_46 : spec_l3Draw_T) (c_66 : spec_l4DrawReg_T) (c_67 : spec_l4DrawCell_T) (c_68 : spec_l4DrawKey_T) (n : Nat) : PM.Lam := fun cur σ K =>
  match cur, σ, K with
  | _, _, _ => none
noncomputable def spec_l4Plain_E (A : PM.Prims) (c_43 : spec_l1Below_T) (c_46 : spec_l3Draw_T) (c_66 : spec_l4DrawReg_T) (c_67 : spec_l4DrawCell_T) (c_68 : spec_l4DrawKey_T) : PM.Env := ⟨[(43, ⟨[], fun _ _ => none, some (PM.spBox (spec_l1Below_w c_43))⟩), (46, ⟨[], fun _ _ => none, some (PM.spBox (spec_l3Draw_w c_46))⟩), (66, ⟨[], fun _ _ => none, some (PM.spBox (spec_l4DrawReg_w c_66))⟩), (67, ⟨[], fun _ _ => none, some (PM.spBox (spec_l4DrawCell_w c_67))⟩), (68, ⟨[], fun _ _ => none, some (PM.spBox (spec_l4DrawKey_w c_68))⟩)], [], [], [(0, [0, 1, 4]), (1, [0, 1, 4, 5]), (2, [0, 4, 5, 8]), (3, [0, 4, 5, 8, 9]), (4, [0, 4, 5]), (5, [0, 4, 5]), (6, [0, 4, 5, 8, 17]), (7, [0, 4, 5, 8, 17]), (8, [0, 4, 5, 8, 17]), (9, [0, 4, 5]), (10, [0, 4, 5]), (11, [0, 4, 5]), (12, [0, 4, 5, 8, 30]), (13, [0, 4, 5]), (14, [0, 4, 5]), (15, [0, 4, 5, 8, 38]), (16, [0, 4, 5]), (17, [0, 4, 5]), (18, [0, 4, 5, 8, 46]), (19, [0, 4, 5]), (20, [0, 4, 5]), (21, [0, 4, 5, 8, 55]), (22, [0, 4, 5, 8, 55]), (23, [0, 4, 5, 8, 55]), (24, [0, 4, 5]), (25, [0, 4, 5, 8, 62]), (26, [0, 4, 5]), (27, [0, 4, 5]), (28, [0, 4, 5]), (29, [0, 4, 5, 8, 73]), (30, [0, 4, 5]), (31, [0, 4, 5]), (32, [0, 4, 5, 81]), (33, [0, 4, 5]), (34, [0, 4, 5]), (35, [0, 4])], spec_l4Plain_L A c_43 c_46 c_66 c_67 c_68 A.fuel⟩
theorem spec_l4Plain_ok (A : PM.Prims) (c_43 : spec_l1Below_T) (c_46 : spec_l3Draw_T) (c_66 : spec_l4DrawReg_T) (c_67 : spec_l4DrawCell_T) (c_68 : spec_l4DrawKey_T) (___b : List Int) (___i : Int) (___h : Int) (a : Int) (k : PM.V → PM.R) : PM.pfunB A cx (spec_l4Plain_E A c_43 c_46 c_66 c_67 c_68) Go.Proofs.Try.f42 [.tup [.arr (.ints 5 .u8 ___b), .int .i64 ___i, .int .i64 ___h], .int .i64 a] k = spec_l4Plain_f A c_43 c_46 c_66 c_67 c_68 ___b ___i ___h a (fun r0_Kind r0_A r0_B r0_C bx_b bx_i bx_h => k (.tup [.agg [.int .i64 r0_Kind, .int .i64 r0_A, .int .i64 r0_B, .int .i64 r0_C], .tup [.arr (.ints 5 .u8 bx_b), .int .i64 bx_i, .int .i64 bx_h]])) := by kernel_rfl

theorem spec_l4Plain_fn : PM.FnIs Try.prog 42 Try.f42 := .of Try.func42 (by kernel_rfl) (by kernel_rfl)
theorem spec_l4Plain_g : PM.GOk Try.prog cx 42 ⟨[], fun _ _ => none, some (PM.spBox (spec_l4Plain_w (spec_l4Plain PM.std)))⟩ := by
  refine PM.GOk.ofS spec_l4Plain_fn.enter (PM.spBox_ok fun ds k r h => ?_)
  change spec_l4Plain_w (spec_l4Plain PM.std) ds k = some r at h
  unfold spec_l4Plain_w at h
  split at h
  · exact PM.pfunB_ok (E := spec_l4Plain_E PM.std (spec_l1Below PM.std) (spec_l3Draw PM.std) (spec_l4DrawReg PM.std) (spec_l4DrawCell PM.std) (spec_l4DrawKey PM.std)) (L := fun n => spec_l4Plain_L PM.std (spec_l1Below PM.std) (spec_l3Draw PM.std) (spec_l4DrawReg PM.std) (spec_l4DrawCell PM.std) (spec_l4DrawKey PM.std) n) (N := PM.std.fuel) cx_ok (.cons spec_l1Below_g (.cons spec_l3Draw_g (.cons spec_l4DrawReg_g (.cons spec_l4DrawCell_g (.cons spec_l4DrawKey_g .nil))))) mixed .nil spec_l4Plain_fn (by kernel_rfl) ⟨rfl, fun _ _ _ => rfl, fun n cur σ K r h => by cases h⟩
      ((spec_l4Plain_ok PM.std (spec_l1Below PM.std) (spec_l3Draw PM.std) (spec_l4DrawReg PM.std) (spec_l4DrawCell PM.std) (spec_l4DrawKey PM.std) _ _ _ _ k).trans h)
  · cases h

abbrev spec_l4Any_T := (List Int) → (Int) → (Int) → ((Int) → (Int) → (Int) → (Int) → (List Int) → (Int) → (Int) → PM.R) → PM.R
noncomputable def spec_l4Any_w (c : spec_l4Any_T) (ds : List PM.V) (k : PM.V → PM.R) : PM.R :=
  match ds with
  | [.tup [.arr (.ints 5 .u8 c_b), .int .i64 c_i, .int .i64 c_h]] => c c_b c_i c_h (fun r0_Kind r0_A r0_B r0_C bx_b bx_i bx_h => k (.tup [.agg [.int .i64 r0_Kind, .int .i64 r0_A, .int .i64 r0_B, .int .i64 r0_C], .tup [.arr (.ints 5 .u8 bx_b), .int .i64 bx_i, .int .i64 bx_h]]))
  | _ => none
noncomputable def spec_l4Any_f (A : PM.Prims) (c_43 : spec_l1Below_T) (c_42 : spec_l4Plain_T) (c_b : List Int) (c_i : Int) (c_h : Int) (k : (Int) → (Int) → (Int) → (Int) → (List Int) → (Int) → (Int) → PM.R) : PM.R :=
  c_43 c_b c_i c_h 16 (fun r1 r2 r3 r4 =>
    c_42 r2 r3 r4 (A.add .i64 1 r1) (fun r5 r6 r7 r8 r9 r10 r11 =>
      c_43 r9 r10 r11 16 (fun r12 r13 r14 r15 =>
        bif (A.eq r12 0) then
          c_43 r13 r14 r15 (A.ilen [(-1), 4, 8]) (fun r16 r17 r18 r19 =>
            bif (A.inb r16 (A.ilen [(-1), 4, 8])) then
              k r5 (A.iget [(-1), 4, 8] r16) r7 r8 r17 r18 r19
            else
              none)
        else
          bif (A.eq r12 1) then
            c_43 r13 r14 r15 (A.ilen [(-1), 4, 8, 65536, 21]) (fun r20 r21 r22 r23 =>
              bif (A.inb r20 (A.ilen [(-1), 4, 8, 65536, 21])) then
                k r5 r6 (A.iget [(-1), 4, 8, 65536, 21] r20) r8 r21 r22 r23
              else
                none)
          else
            bif (A.eq r12 2) then
              c_43 r13 r14 r15 (A.ilen [(-1), 4, 1]) (fun r24 r25 r26 r27 =>
                bif (A.inb r24 (A.ilen [(-1), 4, 1])) then
                  k r5 r6 r7 (A.iget [(-1), 4, 1] r24) r25 r26 r27
                else
                  none)
            else
              bif (A.eq r12 3) then
                c_43 r13 r14 r15 (A.ilen [0, 17, (-3)]) (fun r28 r29 r30 r31 =>
                  bif (A.inb r28 (A.ilen [0, 17, (-3)])) then
                    k (A.iget [0, 17, (-3)] r28) r6 r7 r8 r29 r30 r31
                  else
                    none)
              else
                k r5 r6 r7 r8 r13 r14 r15)))
noncomputable def spec_l4Any (A : PM.Prims) : spec_l4Any_T := spec_l4Any_f A (spec_l1Below A) (spec_l4Plain A)
noncomputable def spec_l4Any_L (A : PM.Prims) (c_43 : spec_l1Below_T) (c_42 : spec_l4Plain_T) (n : Nat) : PM.Lam := fun cur σ K =>
  match cur, σ, K with
  | _, _, _ => none
noncomputable def spec_l4Any_E (A : PM.Prims) (c_43 : spec_l1Below_T) (c_42 : spec_l4Plain_T) : PM.Env := ⟨[(43, ⟨[], fun _ _ => none, some (PM.spBox (spec_l1Below_w c_43))⟩), (42, ⟨[], fun _ _ => none, some (PM.spBox (spec_l4Plain_w c_42))⟩)], [(29, Go.Proofs.Try.f29)], [], [(0, [0, 2]), (1, [0, 2, 3]), (2, [0, 2, 3, 10]), (3, [0, 2, 3, 10, 11]), (4, [0, 2, 3]), (5, [0, 2, 3, 10, 17]), (6, [0, 2, 3]), (7, [0, 2, 3, 10, 23]), (8, [0, 2, 3]), (9, [0, 2, 3, 29]), (10, [0, 2, 3]), (11, [0, 2])], spec_l4Any_L A c_43 c_42 A.fuel⟩
theorem spec_l4Any_ok (A : PM.Prims) (c_43 : spec_l1Below_T) (c_42 : spec_l4Plain_T) (c_b : List Int) (c_i : Int) (c_h : Int) (k : PM.V → PM.R) : PM.pfunB A cx (spec_l4Any_E A c_43 c_42) Go.Proofs.Try.f45 [.tup [.arr (.ints 5 .u8 c_b), .int .i64 c_i, .int .i64 c_h]] k = spec_l4Any_f A c_43 c_42 c_b c_i c_h (fun r0_Kind r0_A r0_B r0_C bx_b bx_i bx_h => k (.tup [.agg [.int .i64 r0_Kind, .int .i64 r0_A, .int .i64 r0_B, .int .i64 r0_C], .tup [.arr (.ints 5 .u8 bx_b), .int .i64 bx_i, .int .i64 bx_h]])) := by kernel_rfl

theorem spec_l4Any_fn : PM.FnIs Try.prog 45 Try.f45 := .of Try.func45 (by kernel_rfl) (by kernel_rfl)
theorem spec_l4Any_g : PM.GOk Try.prog cx 45 ⟨[], fun _ _ => none, some (PM.spBox (spec_l4Any_w (spec_l4Any PM.std)))⟩ := by
  refine PM.GOk.ofS spec_l4Any_fn.enter (PM.spBox_ok fun ds k r h => ?_)
  change spec_l4Any_w (spec_l4Any PM.std) ds k = some r at h
  unfold spec_l4Any_w at h
  split at h
  · exact PM.pfunB_ok (E := spec_l4Any_E PM.std (spec_l1Below PM.std) (spec_l4Plain PM.std)) (L := fun n => spec_l4Any_L PM.std (spec_l1Below PM.std) (spec_l4Plain PM.std) n) (N := PM.std.fuel) cx_ok (.cons spec_l1Below_g (.cons spec_l4Plain_g .nil)) mixed (.cons (.of Try.func29 (by kernel_rfl) (by kernel_rfl)) (by kernel_rfl) .nil) spec_l4Any_fn (by kernel_rfl) ⟨rfl, fun _ _ _ => rfl, fun n cur σ K r h => by cases h⟩
      ((spec_l4Any_ok PM.std (spec_l1Below PM.std) (spec_l4Plain PM.std) _ _ _ k).trans h)
  · cases h

abbrev spec_DrawBoostDo_T := (List Int) → ((List Int) → (Int) → (Int) → (Int) → (Int) → (Int) → (List Int) → PM.R) → PM.R
noncomputable def spec_DrawBoostDo_w (c : spec_DrawBoostDo_T) (ds : List PM.V) (k : PM.V → PM.R) : PM.R :=
  match ds with
  | [.arr (.ints 5 .u8 code)] => c code (fun r0_Slots r0_Count r1_Kind r1_A r1_B r1_C r2 => k (.tup [.agg [.arr (.ints 3 .i64 r0_Slots), .int .i64 r0_Count], .agg [.int .i64 r1_Kind, .int .i64 r1_A, .int .i64 r1_B, .int .i64 r1_C], .arr (.ints 3 .i64 r2)]))
  | _ => none
noncomputable def spec_DrawBoostDo_f (A : PM.Prims) (c_26 : spec_l1New_T) (c_43 : spec_l1Below_T) (c_44 : spec_l1Once_T) (c_46 : spec_l3Draw_T) (c_41 : spec_l16Any_T) (c_42 : spec_l4Plain_T) (c_45 : spec_l4Any_T) (code : List Int) (k : (List Int) → (Int) → (Int) → (Int) → (Int) → (Int) → (List Int) → PM.R) : PM.R :=
  c_26 code (fun r1 r2 r3 =>
    c_41 r1 r2 r3 (fun r4 r5 r6 r7 r8 =>
      c_43 r6 r7 r8 5 (fun r9 r10 r11 r12 =>
        c_42 r10 r11 r12 (A.add .i64 12 r9) (fun r13 r14 r15 r16 r17 r18 r19 =>
          c_44 r17 r18 r19 8 (fun r20 r21 r22 r23 =>
            bif r20 then
              c_45 r21 r22 r23 (fun r24 r25 r26 r27 r28 r29 r30 =>
                c_46 r28 r29 r30 (fun r31 r32 r33 r34 =>
                  c_46 r32 r33 r34 (fun r35 r36 r37 r38 =>
                    c_46 r36 r37 r38 (fun r39 r40 r41 r42 =>
                      c_46 r40 r41 r42 (fun r43 r44 r45 r46 =>
                        c_44 r44 r45 r46 15 (fun r47 r48 r49 r50 =>
                          bif r47 then
                            bif (A.subb 0 3 (A.ilen [r31, r35, r39, r43])) then
                              k r4 r5 r24 r25 r26 r27 (A.isub [r31, r35, r39, r43] 0 3)
                            else
                              none
                          else
                            k r4 r5 r24 r25 r26 r27 [r31, r35, r39, r43]))))))
            else
              c_46 r21 r22 r23 (fun r51 r52 r53 r54 =>
                c_46 r52 r53 r54 (fun r55 r56 r57 r58 =>
                  c_46 r56 r57 r58 (fun r59 r60 r61 r62 =>
                    c_46 r60 r61 r62 (fun r63 r64 r65 r66 =>
                      c_44 r64 r65 r66 15 (fun r67 r68 r69 r70 =>
                        bif r67 then
                          bif (A.subb 0 3 (A.ilen [r51, r55, r59, r63])) then
                            k r4 r5 r13 r14 r15 r16 (A.isub [r51, r55, r59, r63] 0 3)
                          else
                            none
                        else
                          k r4 r5 r13 r14 r15 r16 [r51, r55, r59, r63]))))))))))
noncomputable def spec_DrawBoostDo (A : PM.Prims) : spec_DrawBoostDo_T := spec_DrawBoostDo_f A (spec_l1New A) (spec_l1Below A) (spec_l1Once A) (spec_l3Draw A) (spec_l16Any A) (spec_l4Plain A) (spec_l4Any A)
noncomputable def spec_DrawBoostDo_L (A : PM.Prims) (c_26 : spec_l1New_T) (c_43 : spec_l1Below_T) (c_44 : spec_l1Once_T) (c_46 : spec_l3Draw_T) (c_41 : spec_l16Any_T) (c_42 : spec_l4Plain_T) (c_45 : spec_l4Any_T) (n : Nat) : PM.Lam := fun cur σ K =>
  match cur, σ, K with
  | _, _, _ => none
noncomputable def spec_DrawBoostDo_E (A : PM.Prims) (c_26 : spec_l1New_T) (c_43 : spec_l1Below_T) (c_44 : spec_l1Once_T) (c_46 : spec_l3Draw_T) (c_41 : spec_l16Any_T) (c_42 : spec_l4Plain_T) (c_45 : spec_l4Any_T) : PM.Env := ⟨[(26, ⟨[], fun _ _ => none, some (PM.spNew (spec_l1New_w c_26))⟩), (43, ⟨[], fun _ _ => none, some (PM.spBox (spec_l1Below_w c_43))⟩), (44, ⟨[], fun _ _ => none, some (PM.spBox (spec_l1Once_w c_44))⟩), (46, ⟨[], fun _ _ => none, some (PM.spBox (spec_l3Draw_w c_46))⟩), (41, ⟨[], fun _ _ => none, some (PM.spBox (spec_l16Any_w c_41))⟩), (42, ⟨[], fun _ _ => none, some (PM.spBox (spec_l4Plain_w c_42))⟩), (45, ⟨[], fun _ _ => none, some (PM.spBox (spec_l4Any_w c_45))⟩)], [], [], [(0, [0, 2, 3]), (1, [2, 3, 5]), (2, [2, 3, 5, 6]), (3, [2, 3, 5, 6, 7]), (4, [2, 3, 5, 6, 7, 19]), (5, [2, 3, 5, 6, 7]), (6, [2, 3, 5, 6, 7, 8]), (7, [2, 3, 6, 7, 8, 32]), (8, [2, 3, 6, 7, 8]), (9, [2, 3, 4])], spec_DrawBoostDo_L A c_26 c_43 c_44 c_46 c_41 c_42 c_45 A.fuel⟩
theorem spec_DrawBoostDo_ok (A : PM.Prims) (c_26 : spec_l1New_T) (c_43 : spec_l1Below_T) (c_44 : spec_l1Once_T) (c_46 : spec_l3Draw_T) (c_41 : spec_l16Any_T) (c_42 : spec_l4Plain_T) (c_45 : spec_l4Any_T) (code : List Int) (k : PM.V → PM.R) : PM.pfun A cx [] (spec_DrawBoostDo_E A c_26 c_43 c_44 c_46 c_41 c_42 c_45) Go.Proofs.Try.f16 [.arr (.ints 5 .u8 code)] k = spec_DrawBoostDo_f A c_26 c_43 c_44 c_46 c_41 c_42 c_45 code (fun r0_Slots r0_Count r1_Kind r1_A r1_B r1_C r2 => k (.tup [.agg [.arr (.ints 3 .i64 r0_Slots), .int .i64 r0_Count], .agg [.int .i64 r1_Kind, .int .i64 r1_A, .int .i64 r1_B, .int .i64 r1_C], .arr (.ints 3 .i64 r2)])) := by kernel_rfl

theorem spec_DrawBoostDo_fn : PM.FnIs Try.prog 16 Try.f16 := .of Try.func16 (by kernel_rfl) (by kernel_rfl)
theorem spec_DrawBoostDo_g : PM.GOk Try.prog cx 16 ⟨[], spec_DrawBoostDo_w (spec_DrawBoostDo PM.std), none⟩ := by
  refine ⟨spec_DrawBoostDo_fn.enter, fun _ ds k r h => ?_, fun hm => absurd rfl hm, fun _ e => (by cases e)⟩
  change spec_DrawBoostDo_w (spec_DrawBoostDo PM.std) ds k = some r at h
  unfold spec_DrawBoostDo_w at h
  split at h
  · exact PM.pfun_ok (E := spec_DrawBoostDo_E PM.std (spec_l1New PM.std) (spec_l1Below PM.std) (spec_l1Once PM.std) (spec_l3Draw PM.std) (spec_l16Any PM.std) (spec_l4Plain PM.std) (spec_l4Any PM.std)) (L := fun n => spec_DrawBoostDo_L PM.std (spec_l1New PM.std) (spec_l1Below PM.std) (spec_l1Once PM.std) (spec_l3Draw PM.std) (spec_l16Any PM.std) (spec_l4Plain PM.std) (spec_l4Any PM.std) n) (N := PM.std.fuel) cx_ok (.cons spec_l1New_g (.cons spec_l1Below_g (.cons spec_l1Once_g (.cons spec_l3Draw_g (.cons spec_l16Any_g (.cons spec_l4Plain_g (.cons spec_l4Any_g .nil))))))) mixed .nil spec_DrawBoostDo_fn (by kernel_rfl) ⟨rfl, fun _ _ _ => rfl, fun n cur σ K r h => by cases h⟩
      ((spec_DrawBoostDo_ok PM.std (spec_l1New PM.std) (spec_l1Below PM.std) (spec_l1Once PM.std) (spec_l3Draw PM.std) (spec_l16Any PM.std) (spec_l4Plain PM.std) (spec_l4Any PM.std) _ k).trans h)
  · cases h

abbrev laws_fresh_T := (List Int) → (Int) → ((List Int) → PM.R) → PM.R
noncomputable def laws_fresh_w (c : laws_fresh_T) (ds : List PM.V) (k : PM.V → PM.R) : PM.R :=
  match ds with
  | [.arr (.ints 5 .u8 code), .int .i64 salt] => c code salt (fun r0 => k (.arr (.ints 5 .u8 r0)))
  | _ => none
noncomputable def laws_fresh_l0 (A : PM.Prims) : Nat → (List Int) → (Int) → (Int) → (List Int) → ((List Int) → PM.R) → PM.R
  | 0, _, _, _, _, _ => none
  | n + 1, code1, salt2, i3, o04, kx0_0 =>
    bif (A.lt i3 (A.ilen code1)) then
      bif (A.lt i3 600) then
        bif (A.inb i3 (A.ilen code1)) then
          bif (A.nz 7) then
            bif (A.room (A.ilen o04) (A.ilen [(A.wrap .u8 (A.add .i64 (A.mul .i64 (A.wrap .i64 (A.iget code1 i3)) 3) (A.mul .i64 salt2 (A.add .i64 (A.rem .i64 i3 7) 1))))])) then
              laws_fresh_l0 A n code1 salt2 (A.add .i64 i3 1) (A.iapp o04 [(A.wrap .u8 (A.add .i64 (A.mul .i64 (A.wrap .i64 (A.iget code1 i3)) 3) (A.mul .i64 salt2 (A.add .i64 (A.rem .i64 i3 7) 1))))]) kx0_0
            else
              none
          else
            none
        else
          none
      else
        kx0_0 o04
    else
      kx0_0 o04
noncomputable def laws_fresh_f (A : PM.Prims) (code : List Int) (salt : Int) (k : (List Int) → PM.R) : PM.R :=
  laws_fresh_l0 A A.fuel code salt 0 [(A.wrap .u8 salt)] (fun o056 =>
    k o056)
noncomputable def laws_fresh (A : PM.Prims) : laws_fresh_T := laws_fresh_f A
noncomputable def laws_fresh_L (A : PM.Prims) (n : Nat) : PM.Lam := fun cur σ K =>
  match cur, σ, K with
  | 0, ⟨[(0, .arr (.ints 5 .u8 code1)), (1, .int .i64 salt2), (5, .sref 0), (6, .int .i64 i3)], [(0, .arr true (.ints 5 .u8 o04))]⟩, K => laws_fresh_l0 A n code1 salt2 i3 o04 (fun o05 => K (.exit 0) ⟨[(5, .sref 0)], [(0, .arr true (.ints 5 .u8 o05))]⟩)
  | _, _, _ => none
noncomputable def laws_fresh_E (A : PM.Prims) : PM.Env := ⟨[], [], [(0, [0, 1, 5, 6], [4, 5])], [(0, [0, 1]), (1, [0, 1, 5]), (2, [0, 1, 5, 6]), (3, [0, 1, 5, 6, 17]), (4, [0, 1, 5, 6]), (5, [0, 1, 5, 6]), (6, [4])], laws_fresh_L A A.fuel⟩
theorem laws_fresh_l0_ok (A : PM.Prims) (n : Nat) (code1 : List Int) (salt2 : Int) (i3 : Int) (o04 : List Int) (K : Go.Exit → PM.S → PM.R) : laws_fresh_L A (n + 1) 0 ⟨[(0, .arr (.ints 5 .u8 code1)), (1, .int .i64 salt2), (5, .sref 0), (6, .int .i64 i3)], [(0, .arr true (.ints 5 .u8 o04))]⟩ K = PM.roundF A cx (PM.runD A cx (laws_fresh_E A).inl (laws_fresh_E A).Γ 3) (laws_fresh_E A) (laws_fresh_L A n) 0 Go.Proofs.Try.f17 ⟨[(0, .arr (.ints 5 .u8 code1)), (1, .int .i64 salt2), (5, .sref 0), (6, .int .i64 i3)], [(0, .arr true (.ints 5 .u8 o04))]⟩ K := by kernel_rfl
theorem laws_fresh_ok (A : PM.Prims) (code : List Int) (salt : Int) (k : PM.V → PM.R) : PM.pfun A cx [] (laws_fresh_E A) Go.Proofs.Try.f17 [.arr (.ints 5 .u8 code), .int .i64 salt] k = laws_fresh_f A code salt (fun r0 => k (.arr (.ints 5 .u8 r0))) := by kernel_rfl

theorem laws_fresh_fn : PM.FnIs Try.prog 17 Try.f17 := .of Try.func17 (by kernel_rfl) (by kernel_rfl)
theorem laws_fresh_g : PM.GOk Try.prog cx 17 ⟨[], laws_fresh_w (laws_fresh PM.std), none⟩ := by
  refine ⟨laws_fresh_fn.enter, fun _ ds k r h => ?_, fun hm => absurd rfl hm, fun _ e => (by cases e)⟩
  change laws_fresh_w (laws_fresh PM.std) ds k = some r at h
  unfold laws_fresh_w at h
  split at h
  · exact PM.pfun_ok (E := laws_fresh_E PM.std) (L := fun n => laws_fresh_L PM.std n) (N := PM.std.fuel) cx_ok .nil mixed .nil laws_fresh_fn (by kernel_rfl) ⟨rfl, fun cur σ K => by
      dsimp only [laws_fresh_L]
      split <;> rfl, fun n cur σ K r h => by
      dsimp only [laws_fresh_L] at h
      split at h
      · exact (laws_fresh_l0_ok PM.std n _ _ _ _ K).symm.trans h
      · cases h⟩
      ((laws_fresh_ok PM.std _ _ k).trans h)
  · cases h

abbrev spec_ShelfOk_T := (List Int) → (Int) → ((Bool) → PM.R) → PM.R
noncomputable def spec_ShelfOk_w (c : spec_ShelfOk_T) (ds : List PM.V) (k : PM.V → PM.R) : PM.R :=
  match ds with
  | [.agg [.arr (.ints 3 .i64 s_Slots), .int .i64 s_Count]] => c s_Slots s_Count (fun r0 => k (.bool r0))
  | _ => none
noncomputable def spec_ShelfOk_f (A : PM.Prims) (c_9 : spec_SlotsOk_T) (c_47 : spec_l3Val_T) (s_Slots : List Int) (s_Count : Int) (k : (Bool) → PM.R) : PM.R :=
  c_9 s_Slots (fun r1 =>
    bif r1 then
      c_47 s_Count (fun r2 =>
        k r2)
    else
      k false)
noncomputable def spec_ShelfOk (A : PM.Prims) : spec_ShelfOk_T := spec_ShelfOk_f A (spec_SlotsOk A) (spec_l3Val A)
noncomputable def spec_ShelfOk_L (A : PM.Prims) (c_9 : spec_SlotsOk_T) (c_47 : spec_l3Val_T) (n : Nat) : PM.Lam := fun cur σ K =>
  match cur, σ, K with
  | _, _, _ => none
noncomputable def spec_ShelfOk_E (A : PM.Prims) (c_9 : spec_SlotsOk_T) (c_47 : spec_l3Val_T) : PM.Env := ⟨[(9, ⟨[], spec_SlotsOk_w c_9, none⟩), (47, ⟨[], spec_l3Val_w c_47, none⟩)], [], [], [(0, [1]), (1, [2])], spec_ShelfOk_L A c_9 c_47 A.fuel⟩
theorem spec_ShelfOk_ok (A : PM.Prims) (c_9 : spec_SlotsOk_T) (c_47 : spec_l3Val_T) (s_Slots : List Int) (s_Count : Int) (k : PM.V → PM.R) : PM.pfun A cx [] (spec_ShelfOk_E A c_9 c_47) Go.Proofs.Try.f18 [.agg [.arr (.ints 3 .i64 s_Slots), .int .i64 s_Count]] k = spec_ShelfOk_f A c_9 c_47 s_Slots s_Count (fun r0 => k (.bool r0)) := by kernel_rfl

theorem spec_ShelfOk_fn : PM.FnIs Try.prog 18 Try.f18 := .of Try.func18 (by kernel_rfl) (by kernel_rfl)
theorem spec_ShelfOk_g : PM.GOk Try.prog cx 18 ⟨[], spec_ShelfOk_w (spec_ShelfOk PM.std), none⟩ := by
  refine ⟨spec_ShelfOk_fn.enter, fun _ ds k r h => ?_, fun hm => absurd rfl hm, fun _ e => (by cases e)⟩
  change spec_ShelfOk_w (spec_ShelfOk PM.std) ds k = some r at h
  unfold spec_ShelfOk_w at h
  split at h
  · exact PM.pfun_ok (E := spec_ShelfOk_E PM.std (spec_SlotsOk PM.std) (spec_l3Val PM.std)) (L := fun n => spec_ShelfOk_L PM.std (spec_SlotsOk PM.std) (spec_l3Val PM.std) n) (N := PM.std.fuel) cx_ok (.cons spec_SlotsOk_g (.cons spec_l3Val_g .nil)) mixed .nil spec_ShelfOk_fn (by kernel_rfl) ⟨rfl, fun _ _ _ => rfl, fun n cur σ K r h => by cases h⟩
      ((spec_ShelfOk_ok PM.std (spec_SlotsOk PM.std) (spec_l3Val PM.std) _ _ k).trans h)
  · cases h

abbrev spec_l4Reg_T := (Int) → ((Bool) → PM.R) → PM.R
noncomputable def spec_l4Reg_w (c : spec_l4Reg_T) (ds : List PM.V) (k : PM.V → PM.R) : PM.R :=
  match ds with
  | [.int .i64 i] => c i (fun r0 => k (.bool r0))
  | _ => none
noncomputable def spec_l4Reg_f (A : PM.Prims) (c_36 : spec_l1In_T) (i : Int) (k : (Bool) → PM.R) : PM.R :=
  c_36 i 0 3 (fun r1 =>
    k r1)
noncomputable def spec_l4Reg (A : PM.Prims) : spec_l4Reg_T := spec_l4Reg_f A (spec_l1In A)
noncomputable def spec_l4Reg_L (A : PM.Prims) (c_36 : spec_l1In_T) (n : Nat) : PM.Lam := fun cur σ K =>
  match cur, σ, K with
  | _, _, _ => none
noncomputable def spec_l4Reg_E (A : PM.Prims) (c_36 : spec_l1In_T) : PM.Env := ⟨[(36, ⟨[], spec_l1In_w c_36, none⟩)], [], [], [(0, [0]), (1, [2])], spec_l4Reg_L A c_36 A.fuel⟩
theorem spec_l4Reg_ok (A : PM.Prims) (c_36 : spec_l1In_T) (i : Int) (k : PM.V → PM.R) : PM.pfun A cx [] (spec_l4Reg_E A c_36) Go.Proofs.Try.f70 [.int .i64 i] k = spec_l4Reg_f A c_36 i (fun r0 => k (.bool r0)) := by kernel_rfl

theorem spec_l4Reg_fn : PM.FnIs Try.prog 70 Try.f70 := .of Try.func70 (by kernel_rfl) (by kernel_rfl)
theorem spec_l4Reg_g : PM.GOk Try.prog cx 70 ⟨[], spec_l4Reg_w (spec_l4Reg PM.std), none⟩ := by
  refine ⟨spec_l4Reg_fn.enter, fun _ ds k r h => ?_, fun hm => absurd rfl hm, fun _ e => (by cases e)⟩
  change spec_l4Reg_w (spec_l4Reg PM.std) ds k = some r at h
  unfold spec_l4Reg_w at h
  split at h
  · exact PM.pfun_ok (E := spec_l4Reg_E PM.std (spec_l1In PM.std)) (L := fun n => spec_l4Reg_L PM.std (spec_l1In PM.std) n) (N := PM.std.fuel) cx_ok (.cons spec_l1In_g .nil) mixed .nil spec_l4Reg_fn (by kernel_rfl) ⟨rfl, fun _ _ _ => rfl, fun n cur σ K r h => by cases h⟩
      ((spec_l4Reg_ok PM.std (spec_l1In PM.std) _ k).trans h)
  · cases h

abbrev spec_l3Cell_T := (Int) → ((Bool) → PM.R) → PM.R
noncomputable def spec_l3Cell_w (c : spec_l3Cell_T) (ds : List PM.V) (k : PM.V → PM.R) : PM.R :=
  match ds with
  | [.int .i64 i] => c i (fun r0 => k (.bool r0))
  | _ => none
noncomputable def spec_l3Cell_f (A : PM.Prims) (c_36 : spec_l1In_T) (i : Int) (k : (Bool) → PM.R) : PM.R :=
  c_36 i 0 7 (fun r1 =>
    k r1)
noncomputable def spec_l3Cell (A : PM.Prims) : spec_l3Cell_T := spec_l3Cell_f A (spec_l1In A)
noncomputable def spec_l3Cell_L (A : PM.Prims) (c_36 : spec_l1In_T) (n : Nat) : PM.Lam := fun cur σ K =>
  match cur, σ, K with
  | _, _, _ => none
noncomputable def spec_l3Cell_E (A : PM.Prims) (c_36 : spec_l1In_T) : PM.Env := ⟨[(36, ⟨[], spec_l1In_w c_36, none⟩)], [], [], [(0, [0]), (1, [2])], spec_l3Cell_L A c_36 A.fuel⟩
theorem spec_l3Cell_ok (A : PM.Prims) (c_36 : spec_l1In_T) (i : Int) (k : PM.V → PM.R) : PM.pfun A cx [] (spec_l3Cell_E A c_36) Go.Proofs.Try.f71 [.int .i64 i] k = spec_l3Cell_f A c_36 i (fun r0 => k (.bool r0)) := by kernel_rfl

theorem spec_l3Cell_fn : PM.FnIs Try.prog 71 Try.f71 := .of Try.func71 (by kernel_rfl) (by kernel_rfl)
theorem spec_l3Cell_g : PM.GOk Try.prog cx 71 ⟨[], spec_l3Cell_w (spec_l3Cell PM.std), none⟩ := by
  refine ⟨spec_l3Cell_fn.enter, fun _ ds k r h => ?_, fun hm => absurd rfl hm, fun _ e => (by cases e)⟩
  change spec_l3Cell_w (spec_l3Cell PM.std) ds k = some r at h
  unfold spec_l3Cell_w at h
  split at h
  · exact PM.pfun_ok (E := spec_l3Cell_E PM.std (spec_l1In PM.std)) (L := fun n => spec_l3Cell_L PM.std (spec_l1In PM.std) n) (N := PM.std.fuel) cx_ok (.cons spec_l1In_g .nil) mixed .nil spec_l3Cell_fn (by kernel_rfl) ⟨rfl, fun _ _ _ => rfl, fun n cur σ K r h => by cases h⟩
      ((spec_l3Cell_ok PM.std (spec_l1In PM.std) _ k).trans h)
  · cases h

abbrev spec_OpOk_T := (Int) → (Int) → (Int) → (Int) → ((Bool) → PM.R) → PM.R
noncomputable def spec_OpOk_w (c : spec_OpOk_T) (ds : List PM.V) (k : PM.V → PM.R) : PM.R :=
  match ds with
  | [.agg [.int .i64 ___Kind, .int .i64 ___A, .int .i64 ___B, .int .i64 ___C]] => c ___Kind ___A ___B ___C (fun r0 => k (.bool r0))
  | _ => none
noncomputable def spec_OpOk_f (A : PM.Prims) (c_36 : spec_l1In_T) (c_47 : spec_l3Val_T) (c_70 : spec_l4Reg_T) (c_71 : spec_l3Cell_T) (___Kind : Int) (___A : Int) (___B : Int) (___C : Int) (k : (Bool) → PM.R) : PM.R :=
  bif (A.eq ___Kind 1) then
    c_70 ___A (fun r1 =>
      bif r1 then
        c_47 ___B (fun r2 =>
          bif r2 then
            k (A.eq ___C 0)
          else
            k false)
      else
        k false)
  else
    bif (A.eq ___Kind 2) then
      c_70 ___A (fun r3 =>
        bif r3 then
          c_70 ___B (fun r4 =>
            bif r4 then
              c_70 ___C (fun r5 =>
                k r5)
            else
              k false)
        else
          k false)
    else
      bif (A.eq ___Kind 3) then
        c_70 ___A (fun r6 =>
          bif r6 then
            c_70 ___B (fun r7 =>
              bif r7 then
                c_70 ___C (fun r8 =>
                  k r8)
              else
                k false)
          else
            k false)
      else
        bif (A.eq ___Kind 4) then
          c_70 ___A (fun r9 =>
            bif r9 then
              c_70 ___B (fun r10 =>
                bif r10 then
                  c_70 ___C (fun r11 =>
                    k r11)
                else
                  k false)
            else
              k false)
        else
          bif (A.eq ___Kind 5) then
            c_70 ___A (fun r12 =>
              bif r12 then
                c_71 ___B (fun r13 =>
                  bif r13 then
                    k (A.eq ___C 0)
                  else
                    k false)
              else
                k false)
          else
            bif (A.eq ___Kind 6) then
              c_71 ___A (fun r14 =>
                bif r14 then
                  c_70 ___B (fun r15 =>
                    bif r15 then
                      k (A.eq ___C 0)
                    else
                      k false)
                else
                  k false)
            else
              bif (A.eq ___Kind 7) then
                c_70 ___A (fun r16 =>
                  bif r16 then
                    c_36 ___B 1 20 (fun r17 =>
                      bif r17 then
                        k (A.eq ___C 0)
                      else
                        k false)
                  else
                    k false)
              else
                bif (A.eq ___Kind 8) then
                  c_70 ___A (fun r18 =>
                    bif r18 then
                      bif (A.eq ___B 0) then
                        k (A.eq ___C 0)
                      else
                        k false
                    else
                      k false)
                else
                  bif (A.eq ___Kind 15) then
                    c_70 ___A (fun r19 =>
                      bif r19 then
                        bif (A.eq ___B 0) then
                          k (A.eq ___C 0)
                        else
                          k false
                      else
                        k false)
                  else
                    bif (A.eq ___Kind 16) then
                      c_70 ___A (fun r20 =>
                        bif r20 then
                          bif (A.eq ___B 0) then
                            k (A.eq ___C 0)
                          else
                            k false
                        else
                          k false)
                    else
                      bif (A.eq ___Kind 9) then
                        bif (A.eq ___A 0) then
                          bif (A.eq ___B 0) then
                            k (A.eq ___C 0)
                          else
                            k false
                        else
                          k false
                      else
                        bif (A.eq ___Kind 10) then
                          bif (A.eq ___A 0) then
                            bif (A.eq ___B 0) then
                              k (A.eq ___C 0)
                            else
                              k false
                          else
                            k false
                        else
                          bif (A.eq ___Kind 11) then
                            bif (A.eq ___A 0) then
                              bif (A.eq ___B 0) then
                                k (A.eq ___C 0)
                              else
                                k false
                            else
                              k false
                          else
                            bif (A.eq ___Kind 12) then
                              c_36 ___A 0 7 (fun r21 =>
                                bif r21 then
                                  c_70 ___B (fun r22 =>
                                    bif r22 then
                                      c_70 ___C (fun r23 =>
                                        k r23)
                                    else
                                      k false)
                                else
                                  k false)
                            else
                              bif (A.eq ___Kind 13) then
                                c_70 ___A (fun r24 =>
                                  bif r24 then
                                    c_36 ___B 0 7 (fun r25 =>
                                      bif r25 then
                                        k (A.eq ___C 0)
                                      else
                                        k false)
                                  else
                                    k false)
                              else
                                bif (A.eq ___Kind 14) then
                                  c_36 ___A 0 7 (fun r26 =>
                                    bif r26 then
                                      c_70 ___B (fun r27 =>
                                        bif r27 then
                                          k (A.eq ___C 0)
                                        else
                                          k false)
                                    else
                                      k false)
                                else
                                  k false
noncomputable def spec_OpOk (A : PM.Prims) : spec_OpOk_T := spec_OpOk_f A (spec_l1In A) (spec_l3Val A) (spec_l4Reg A) (spec_l3Cell A)
noncomputable def spec_OpOk_L (A : PM.Prims) (c_36 : spec_l1In_T) (c_47 : spec_l3Val_T) (c_70 : spec_l4Reg_T) (c_71 : spec_l3Cell_T) (n : Nat) : PM.Lam := fun cur σ K =>
  match cur, σ, K with
  | _, _, _ => none
noncomputable def spec_OpOk_E (A : PM.Prims) (c_36 : spec_l1In_T) (c_47 : spec_l3Val_T) (c_70 : spec_l4Reg_T) (c_71 : spec_l3Cell_T) : PM.Env := ⟨[(36, ⟨[], spec_l1In_w c_36, none⟩), (47, ⟨[], spec_l3Val_w c_47, none⟩), (70, ⟨[], spec_l4Reg_w c_70, none⟩), (71, ⟨[], spec_l3Cell_w c_71, none⟩)], [], [], [(0, [1]), (1, [1, 4]), (2, [1, 4, 5]), (3, [2]), (4, [1, 4, 20]), (5, [1, 4, 20]), (6, [1, 4, 20]), (7, [2]), (8, [1, 4, 37]), (9, [2]), (10, [1, 4, 52]), (11, [2]), (12, [1, 4, 67]), (13, [2]), (14, [1, 4, 82]), (15, [1, 4, 82]), (16, [1, 4, 82]), (17, [2]), (18, [1, 4, 99]), (19, [1, 4, 99]), (20, [1, 4, 99]), (21, [2]), (22, [1, 4, 116]), (23, [2]), (24, [1, 4, 131]), (25, [2]), (26, [1, 146]), (27, [2]), (28, [2])], spec_OpOk_L A c_36 c_47 c_70 c_71 A.fuel⟩
theorem spec_OpOk_ok (A : PM.Prims) (c_36 : spec_l1In_T) (c_47 : spec_l3Val_T) (c_70 : spec_l4Reg_T) (c_71 : spec_l3Cell_T) (___Kind : Int) (___A : Int) (___B : Int) (___C : Int) (k : PM.V → PM.R) : PM.pfun A cx [] (spec_OpOk_E A c_36 c_47 c_70 c_71) Go.Proofs.Try.f48 [.agg [.int .i64 ___Kind, .int .i64 ___A, .int .i64 ___B, .int .i64 ___C]] k = spec_OpOk_f A c_36 c_47 c_70 c_71 ___Kind ___A ___B ___C (fun r0 => k (.bool r0)) := by kernel_rfl

theorem spec_OpOk_fn : PM.FnIs Try.prog 48 Try.f48 := .of Try.func48 (by kernel_rfl) (by kernel_rfl)
theorem spec_OpOk_g : PM.GOk Try.prog cx 48 ⟨[], spec_OpOk_w (spec_OpOk PM.std), none⟩ := by
  refine ⟨spec_OpOk_fn.enter, fun _ ds k r h => ?_, fun hm => absurd rfl hm, fun _ e => (by cases e)⟩
  change spec_OpOk_w (spec_OpOk PM.std) ds k = some r at h
  unfold spec_OpOk_w at h
  split at h
  · exact PM.pfun_ok (E := spec_OpOk_E PM.std (spec_l1In PM.std) (spec_l3Val PM.std) (spec_l4Reg PM.std) (spec_l3Cell PM.std)) (L := fun n => spec_OpOk_L PM.std (spec_l1In PM.std) (spec_l3Val PM.std) (spec_l4Reg PM.std) (spec_l3Cell PM.std) n) (N := PM.std.fuel) cx_ok (.cons spec_l1In_g (.cons spec_l3Val_g (.cons spec_l4Reg_g (.cons spec_l3Cell_g .nil)))) mixed .nil spec_OpOk_fn (by kernel_rfl) ⟨rfl, fun _ _ _ => rfl, fun n cur σ K r h => by cases h⟩
      ((spec_OpOk_ok PM.std (spec_l1In PM.std) (spec_l3Val PM.std) (spec_l4Reg PM.std) (spec_l3Cell PM.std) _ _ _ _ k).trans h)
  · cases h

abbrev spec_Touches_T := (Int) → (Int) → (Int) → (Int) → ((Int) → PM.R) → PM.R
noncomputable def spec_Touches_w (c : spec_Touches_T) (ds : List PM.V) (k : PM.V → PM.R) : PM.R :=
  match ds with
  | [.agg [.int .i64 o_Kind, .int .i64 o_A, .int .i64 o_B, .int .i64 o_C]] => c o_Kind o_A o_B o_C (fun r0 => k (.int .i64 r0))
  | _ => none
noncomputable def spec_Touches_f (A : PM.Prims) (c_48 : spec_OpOk_T) (o_Kind : Int) (o_A : Int) (o_B : Int) (o_C : Int) (k : (Int) → PM.R) : PM.R :=
  c_48 o_Kind o_A o_B o_C (fun r1 =>
    bif (A.not r1) then
      k 0
    else
      bif (A.eq o_Kind 5) then
        k 1
      else
        bif (A.eq o_Kind 6) then
          k 1
        else
          bif (A.eq o_Kind 12) then
            k 2
          else
            bif (A.eq o_Kind 13) then
              k 2
            else
              bif (A.eq o_Kind 14) then
                k 2
              else
                bif (A.eq o_Kind 15) then
                  k 2
                else
                  bif (A.eq o_Kind 16) then
                    k 2
                  else
                    k 0)
noncomputable def spec_Touches (A : PM.Prims) : spec_Touches_T := spec_Touches_f A (spec_OpOk A)
noncomputable def spec_Touches_L (A : PM.Prims) (c_48 : spec_OpOk_T) (n : Nat) : PM.Lam := fun cur σ K =>
  match cur, σ, K with
  | _, _, _ => none
noncomputable def spec_Touches_E (A : PM.Prims) (c_48 : spec_OpOk_T) : PM.Env := ⟨[(48, ⟨[], spec_OpOk_w c_48, none⟩)], [], [], [(0, [1]), (1, [1, 5]), (2, [2]), (3, [7]), (4, [7, 8]), (5, [7, 8]), (6, [2]), (7, [7, 11]), (8, [7, 11]), (9, [7, 11]), (10, [7, 11]), (11, [11]), (12, [2]), (13, [2])], spec_Touches_L A c_48 A.fuel⟩
theorem spec_Touches_ok (A : PM.Prims) (c_48 : spec_OpOk_T) (o_Kind : Int) (o_A : Int) (o_B : Int) (o_C : Int) (k : PM.V → PM.R) : PM.pfun A cx [] (spec_Touches_E A c_48) Go.Proofs.Try.f19 [.agg [.int .i64 o_Kind, .int .i64 o_A, .int .i64 o_B, .int .i64 o_C]] k = spec_Touches_f A c_48 o_Kind o_A o_B o_C (fun r0 => k (.int .i64 r0)) := by kernel_rfl

theorem spec_Touches_fn : PM.FnIs Try.prog 19 Try.f19 := .of Try.func19 (by kernel_rfl) (by kernel_rfl)
theorem spec_Touches_g : PM.GOk Try.prog cx 19 ⟨[], spec_Touches_w (spec_Touches PM.std), none⟩ := by
  refine ⟨spec_Touches_fn.enter, fun _ ds k r h => ?_, fun hm => absurd rfl hm, fun _ e => (by cases e)⟩
  change spec_Touches_w (spec_Touches PM.std) ds k = some r at h
  unfold spec_Touches_w at h
  split at h
  · exact PM.pfun_ok (E := spec_Touches_E PM.std (spec_OpOk PM.std)) (L := fun n => spec_Touches_L PM.std (spec_OpOk PM.std) n) (N := PM.std.fuel) cx_ok (.cons spec_OpOk_g .nil) mixed .nil spec_Touches_fn (by kernel_rfl) ⟨rfl, fun _ _ _ => rfl, fun n cur σ K r h => by cases h⟩
      ((spec_Touches_ok PM.std (spec_OpOk PM.std) _ _ _ _ k).trans h)
  · cases h

abbrev impl_isReg_T := (Int) → ((Bool) → PM.R) → PM.R
noncomputable def impl_isReg_w (c : impl_isReg_T) (ds : List PM.V) (k : PM.V → PM.R) : PM.R :=
  match ds with
  | [.int .i64 r] => c r (fun r0 => k (.bool r0))
  | _ => none
noncomputable def impl_isReg_f (A : PM.Prims) (c_63 : impl_within_T) (r : Int) (k : (Bool) → PM.R) : PM.R :=
  c_63 r 0 3 (fun r1 =>
    k r1)
noncomputable def impl_isReg (A : PM.Prims) : impl_isReg_T := impl_isReg_f A (impl_within A)
noncomputable def impl_isReg_L (A : PM.Prims) (c_63 : impl_within_T) (n : Nat) : PM.Lam := fun cur σ K =>
  match cur, σ, K with
  | _, _, _ => none
noncomputable def impl_isReg_E (A : PM.Prims) (c_63 : impl_within_T) : PM.Env := ⟨[(63, ⟨[], impl_within_w c_63, none⟩)], [], [], [(0, [0]), (1, [2])], impl_isReg_L A c_63 A.fuel⟩
theorem impl_isReg_ok (A : PM.Prims) (c_63 : impl_within_T) (r : Int) (k : PM.V → PM.R) : PM.pfun A cx [] (impl_isReg_E A c_63) Go.Proofs.Try.f72 [.int .i64 r] k = impl_isReg_f A c_63 r (fun r0 => k (.bool r0)) := by kernel_rfl

theorem impl_isReg_fn : PM.FnIs Try.prog 72 Try.f72 := .of Try.func72 (by kernel_rfl) (by kernel_rfl)
theorem impl_isReg_g : PM.GOk Try.prog cx 72 ⟨[], impl_isReg_w (impl_isReg PM.std), none⟩ := by
  refine ⟨impl_isReg_fn.enter, fun _ ds k r h => ?_, fun hm => absurd rfl hm, fun _ e => (by cases e)⟩
  change impl_isReg_w (impl_isReg PM.std) ds k = some r at h
  unfold impl_isReg_w at h
  split at h
  · exact PM.pfun_ok (E := impl_isReg_E PM.std (impl_within PM.std)) (L := fun n => impl_isReg_L PM.std (impl_within PM.std) n) (N := PM.std.fuel) cx_ok (.cons impl_within_g .nil) mixed .nil impl_isReg_fn (by kernel_rfl) ⟨rfl, fun _ _ _ => rfl, fun n cur σ K r h => by cases h⟩
      ((impl_isReg_ok PM.std (impl_within PM.std) _ k).trans h)
  · cases h

abbrev impl_isCell_T := (Int) → ((Bool) → PM.R) → PM.R
noncomputable def impl_isCell_w (c : impl_isCell_T) (ds : List PM.V) (k : PM.V → PM.R) : PM.R :=
  match ds with
  | [.int .i64 i] => c i (fun r0 => k (.bool r0))
  | _ => none
noncomputable def impl_isCell_f (A : PM.Prims) (c_63 : impl_within_T) (i : Int) (k : (Bool) → PM.R) : PM.R :=
  c_63 i 0 7 (fun r1 =>
    k r1)
noncomputable def impl_isCell (A : PM.Prims) : impl_isCell_T := impl_isCell_f A (impl_within A)
noncomputable def impl_isCell_L (A : PM.Prims) (c_63 : impl_within_T) (n : Nat) : PM.Lam := fun cur σ K =>
  match cur, σ, K with
  | _, _, _ => none
noncomputable def impl_isCell_E (A : PM.Prims) (c_63 : impl_within_T) : PM.Env := ⟨[(63, ⟨[], impl_within_w c_63, none⟩)], [], [], [(0, [0]), (1, [2])], impl_isCell_L A c_63 A.fuel⟩
theorem impl_isCell_ok (A : PM.Prims) (c_63 : impl_within_T) (i : Int) (k : PM.V → PM.R) : PM.pfun A cx [] (impl_isCell_E A c_63) Go.Proofs.Try.f73 [.int .i64 i] k = impl_isCell_f A c_63 i (fun r0 => k (.bool r0)) := by kernel_rfl

theorem impl_isCell_fn : PM.FnIs Try.prog 73 Try.f73 := .of Try.func73 (by kernel_rfl) (by kernel_rfl)
theorem impl_isCell_g : PM.GOk Try.prog cx 73 ⟨[], impl_isCell_w (impl_isCell PM.std), none⟩ := by
  refine ⟨impl_isCell_fn.enter, fun _ ds k r h => ?_, fun hm => absurd rfl hm, fun _ e => (by cases e)⟩
  change impl_isCell_w (impl_isCell PM.std) ds k = some r at h
  unfold impl_isCell_w at h
  split at h
  · exact PM.pfun_ok (E := impl_isCell_E PM.std (impl_within PM.std)) (L := fun n => impl_isCell_L PM.std (impl_within PM.std) n) (N := PM.std.fuel) cx_ok (.cons impl_within_g .nil) mixed .nil impl_isCell_fn (by kernel_rfl) ⟨rfl, fun _ _ _ => rfl, fun n cur σ K r h => by cases h⟩
      ((impl_isCell_ok PM.std (impl_within PM.std) _ k).trans h)
  · cases h

abbrev impl_OpOk_T := (Int) → (Int) → (Int) → (Int) → ((Bool) → PM.R) → PM.R
noncomputable def impl_OpOk_w (c : impl_OpOk_T) (ds : List PM.V) (k : PM.V → PM.R) : PM.R :=
  match ds with
  | [.agg [.int .i64 ___Kind, .int .i64 ___A, .int .i64 ___B, .int .i64 ___C]] => c ___Kind ___A ___B ___C (fun r0 => k (.bool r0))
  | _ => none
noncomputable def impl_OpOk_f (A : PM.Prims) (c_63 : impl_within_T) (c_32 : impl_isKey_T) (c_33 : impl_isValue_T) (c_72 : impl_isReg_T) (c_73 : impl_isCell_T) (___Kind : Int) (___A : Int) (___B : Int) (___C : Int) (k : (Bool) → PM.R) : PM.R :=
  bif (A.eq ___Kind 1) then
    c_72 ___A (fun r1 =>
      bif r1 then
        c_33 ___B (fun r2 =>
          bif r2 then
            k (A.eq ___C 0)
          else
            k false)
      else
        k false)
  else
    bif (A.eq ___Kind 2) then
      c_72 ___A (fun r3 =>
        bif r3 then
          c_72 ___B (fun r4 =>
            bif r4 then
              c_72 ___C (fun r5 =>
                k r5)
            else
              k false)
        else
          k false)
    else
      bif (A.eq ___Kind 3) then
        c_72 ___A (fun r6 =>
          bif r6 then
            c_72 ___B (fun r7 =>
              bif r7 then
                c_72 ___C (fun r8 =>
                  k r8)
              else
                k false)
          else
            k false)
      else
        bif (A.eq ___Kind 4) then
          c_72 ___A (fun r9 =>
            bif r9 then
              c_72 ___B (fun r10 =>
                bif r10 then
                  c_72 ___C (fun r11 =>
                    k r11)
                else
                  k false)
            else
              k false)
        else
          bif (A.eq ___Kind 5) then
            c_72 ___A (fun r12 =>
              bif r12 then
                c_73 ___B (fun r13 =>
                  bif r13 then
                    k (A.eq ___C 0)
                  else
                    k false)
              else
                k false)
          else
            bif (A.eq ___Kind 6) then
              c_73 ___A (fun r14 =>
                bif r14 then
                  c_72 ___B (fun r15 =>
                    bif r15 then
                      k (A.eq ___C 0)
                    else
                      k false)
                else
                  k false)
            else
              bif (A.eq ___Kind 7) then
                c_72 ___A (fun r16 =>
                  bif r16 then
                    c_63 ___B 1 20 (fun r17 =>
                      bif r17 then
                        k (A.eq ___C 0)
                      else
                        k false)
                  else
                    k false)
              else
                bif (A.eq ___Kind 8) then
                  c_72 ___A (fun r18 =>
                    bif r18 then
                      bif (A.eq ___B 0) then
                        k (A.eq ___C 0)
                      else
                        k false
                    else
                      k false)
                else
                  bif (A.eq ___Kind 15) then
                    c_72 ___A (fun r19 =>
                      bif r19 then
                        bif (A.eq ___B 0) then
                          k (A.eq ___C 0)
                        else
                          k false
                      else
                        k false)
                  else
                    bif (A.eq ___Kind 16) then
                      c_72 ___A (fun r20 =>
                        bif r20 then
                          bif (A.eq ___B 0) then
                            k (A.eq ___C 0)
                          else
                            k false
                        else
                          k false)
                    else
                      bif (A.eq ___Kind 9) then
                        bif (A.eq ___A 0) then
                          bif (A.eq ___B 0) then
                            k (A.eq ___C 0)
                          else
                            k false
                        else
                          k false
                      else
                        bif (A.eq ___Kind 10) then
                          bif (A.eq ___A 0) then
                            bif (A.eq ___B 0) then
                              k (A.eq ___C 0)
                            else
                              k false
                          else
                            k false
                        else
                          bif (A.eq ___Kind 11) then
                            bif (A.eq ___A 0) then
                              bif (A.eq ___B 0) then
                                k (A.eq ___C 0)
                              else
                                k false
                            else
                              k false
                          else
                            bif (A.eq ___Kind 12) then
                              c_32 ___A (fun r21 =>
                                bif r21 then
                                  c_72 ___B (fun r22 =>
                                    bif r22 then
                                      c_72 ___C (fun r23 =>
                                        k r23)
                                    else
                                      k false)
                                else
                                  k false)
                            else
                              bif (A.eq ___Kind 13) then
                                c_72 ___A (fun r24 =>
                                  bif r24 then
                                    c_32 ___B (fun r25 =>
                                      bif r25 then
                                        k (A.eq ___C 0)
                                      else
                                        k false)
                                  else
                                    k false)
                              else
                                bif (A.eq ___Kind 14) then
                                  c_32 ___A (fun r26 =>
                                    bif r26 then
                                      c_72 ___B (fun r27 =>
                                        bif r27 then
                                          k (A.eq ___C 0)
                                        else
                                          k false)
                                    else
                                      k false)
                                else
                                  k false
noncomputable def impl_OpOk (A : PM.Prims) : impl_OpOk_T := impl_OpOk_f A (impl_within A) (impl_isKey A) (impl_isValue A) (impl_isReg A) (impl_isCell A)
noncomputable def impl_OpOk_L (A : PM.Prims) (c_63 : impl_within_T) (c_32 : impl_isKey_T) (c_33 : impl_isValue_T) (c_72 : impl_isReg_T) (c_73 : impl_isCell_T) (n : Nat) : PM.Lam := fun cur σ K =>
  match cur, σ, K with
  | _, _, _ => none
noncomputable def impl_OpOk_E (A : PM.Prims) (c_63 : impl_within_T) (c_32 : impl_isKey_T) (c_33 : impl_isValue_T) (c_72 : impl_isReg_T) (c_73 : impl_isCell_T) : PM.Env := ⟨[(63, ⟨[], impl_within_w c_63, none⟩), (32, ⟨[], impl_isKey_w c_32, none⟩), (33, ⟨[], impl_isValue_w c_33, none⟩), (72, ⟨[], impl_isReg_w c_72, none⟩), (73, ⟨[], impl_isCell_w c_73, none⟩)], [], [], [(0, [1]), (1, [1, 4]), (2, [1, 4, 5]), (3, [2]), (4, [1, 4, 20]), (5, [1, 4, 20]), (6, [1, 4, 20]), (7, [2]), (8, [1, 4, 37]), (9, [2]), (10, [1, 4, 52]), (11, [2]), (12, [1, 4, 67]), (13, [2]), (14, [1, 4, 82]), (15, [1, 4, 82]), (16, [1, 4, 82]), (17, [2]), (18, [1, 4, 99]), (19, [1, 4, 99]), (20, [1, 4, 99]), (21, [2]), (22, [1, 4, 116]), (23, [2]), (24, [1, 4, 131]), (25, [2]), (26, [1, 146]), (27, [2]), (28, [2])], impl_OpOk_L A c_63 c_32 c_33 c_72 c_73 A.fuel⟩
theorem impl_OpOk_ok (A : PM.Prims) (c_63 : impl_within_T) (c_32 : impl_isKey_T) (c_33 : impl_isValue_T) (c_72 : impl_isReg_T) (c_73 : impl_isCell_T) (___Kind : Int) (___A : Int) (___B : Int) (___C : Int) (k : PM.V → PM.R) : PM.pfun A cx [] (impl_OpOk_E A c_63 c_32 c_33 c_72 c_73) Go.Proofs.Try.f49 [.agg [.int .i64 ___Kind, .int .i64 ___A, .int .i64 ___B, .int .i64 ___C]] k = impl_OpOk_f A c_63 c_32 c_33 c_72 c_73 ___Kind ___A ___B ___C (fun r0 => k (.bool r0)) := by kernel_rfl

theorem impl_OpOk_fn : PM.FnIs Try.prog 49 Try.f49 := .of Try.func49 (by kernel_rfl) (by kernel_rfl)
theorem impl_OpOk_g : PM.GOk Try.prog cx 49 ⟨[], impl_OpOk_w (impl_OpOk PM.std), none⟩ := by
  refine ⟨impl_OpOk_fn.enter, fun _ ds k r h => ?_, fun hm => absurd rfl hm, fun _ e => (by cases e)⟩
  change impl_OpOk_w (impl_OpOk PM.std) ds k = some r at h
  unfold impl_OpOk_w at h
  split at h
  · exact PM.pfun_ok (E := impl_OpOk_E PM.std (impl_within PM.std) (impl_isKey PM.std) (impl_isValue PM.std) (impl_isReg PM.std) (impl_isCell PM.std)) (L := fun n => impl_OpOk_L PM.std (impl_within PM.std) (impl_isKey PM.std) (impl_isValue PM.std) (impl_isReg PM.std) (impl_isCell PM.std) n) (N := PM.std.fuel) cx_ok (.cons impl_within_g (.cons impl_isKey_g (.cons impl_isValue_g (.cons impl_isReg_g (.cons impl_isCell_g .nil))))) mixed .nil impl_OpOk_fn (by kernel_rfl) ⟨rfl, fun _ _ _ => rfl, fun n cur σ K r h => by cases h⟩
      ((impl_OpOk_ok PM.std (impl_within PM.std) (impl_isKey PM.std) (impl_isValue PM.std) (impl_isReg PM.std) (impl_isCell PM.std) _ _ _ _ k).trans h)
  · cases h

abbrev impl_BoostMode_T := (Int) → (Int) → (Int) → (Int) → ((Int) → (Int) → PM.R) → PM.R
noncomputable def impl_BoostMode_w (c : impl_BoostMode_T) (ds : List PM.V) (k : PM.V → PM.R) : PM.R :=
  match ds with
  | [.agg [.int .i64 o_Kind, .int .i64 o_A, .int .i64 o_B, .int .i64 o_C]] => c o_Kind o_A o_B o_C (fun r0 r1 => k (.tup [.int .i64 r0, .int .i64 r1]))
  | _ => none
noncomputable def impl_BoostMode_f (A : PM.Prims) (c_49 : impl_OpOk_T) (o_Kind : Int) (o_A : Int) (o_B : Int) (o_C : Int) (k : (Int) → (Int) → PM.R) : PM.R :=
  c_49 o_Kind o_A o_B o_C (fun r1 =>
    bif (A.not r1) then
      k (-1) 0
    else
      bif (A.eq o_Kind 12) then
        k o_A 2
      else
        bif (A.eq o_Kind 14) then
          k o_A 2
        else
          bif (A.eq o_Kind 13) then
            k o_B 1
          else
            bif (A.eq o_Kind 15) then
              k 8 1
            else
              bif (A.eq o_Kind 16) then
                k 8 2
              else
                k (-1) 0)
noncomputable def impl_BoostMode (A : PM.Prims) : impl_BoostMode_T := impl_BoostMode_f A (impl_OpOk A)
noncomputable def impl_BoostMode_L (A : PM.Prims) (c_49 : impl_OpOk_T) (n : Nat) : PM.Lam := fun cur σ K =>
  match cur, σ, K with
  | _, _, _ => none
noncomputable def impl_BoostMode_E (A : PM.Prims) (c_49 : impl_OpOk_T) : PM.Env := ⟨[(49, ⟨[], impl_OpOk_w c_49, none⟩)], [], [], [(0, [1]), (1, [1, 6]), (2, [2, 3]), (3, [1, 8]), (4, [1, 8, 9]), (5, [1, 8, 9]), (6, [2, 3]), (7, [1, 8, 14]), (8, [2, 3]), (9, [8, 18]), (10, [2, 3]), (11, [20]), (12, [2, 3]), (13, [2, 3])], impl_BoostMode_L A c_49 A.fuel⟩
theorem impl_BoostMode_ok (A : PM.Prims) (c_49 : impl_OpOk_T) (o_Kind : Int) (o_A : Int) (o_B : Int) (o_C : Int) (k : PM.V → PM.R) : PM.pfun A cx [] (impl_BoostMode_E A c_49) Go.Proofs.Try.f20 [.agg [.int .i64 o_Kind, .int .i64 o_A, .int .i64 o_B, .int .i64 o_C]] k = impl_BoostMode_f A c_49 o_Kind o_A o_B o_C (fun r0 r1 => k (.tup [.int .i64 r0, .int .i64 r1])) := by kernel_rfl

theorem impl_BoostMode_fn : PM.FnIs Try.prog 20 Try.f20 := .of Try.func20 (by kernel_rfl) (by kernel_rfl)
theorem impl_BoostMode_g : PM.GOk Try.prog cx 20 ⟨[], impl_BoostMode_w (impl_BoostMode PM.std), none⟩ := by
  refine ⟨impl_BoostMode_fn.enter, fun _ ds k r h => ?_, fun hm => absurd rfl hm, fun _ e => (by cases e)⟩
  change impl_BoostMode_w (impl_BoostMode PM.std) ds k = some r at h
  unfold impl_BoostMode_w at h
  split at h
  · exact PM.pfun_ok (E := impl_BoostMode_E PM.std (impl_OpOk PM.std)) (L := fun n => impl_BoostMode_L PM.std (impl_OpOk PM.std) n) (N := PM.std.fuel) cx_ok (.cons impl_OpOk_g .nil) mixed .nil impl_BoostMode_fn (by kernel_rfl) ⟨rfl, fun _ _ _ => rfl, fun n cur σ K r h => by cases h⟩
      ((impl_BoostMode_ok PM.std (impl_OpOk PM.std) _ _ _ _ k).trans h)
  · cases h

abbrev impl_copyShelf_T := (List Int) → (Int) → ((List Int) → (Int) → PM.R) → PM.R
noncomputable def impl_copyShelf_w (c : impl_copyShelf_T) (ds : List PM.V) (k : PM.V → PM.R) : PM.R :=
  match ds with
  | [.agg [.arr (.ints 3 .i64 s_Slots), .int .i64 s_Count]] => c s_Slots s_Count (fun r0_Slots r0_Count => k (.agg [.arr (.ints 3 .i64 r0_Slots), .int .i64 r0_Count]))
  | _ => none
noncomputable def impl_copyShelf_f (A : PM.Prims) (c_30 : impl_copyInts_T) (s_Slots : List Int) (s_Count : Int) (k : (List Int) → (Int) → PM.R) : PM.R :=
  c_30 s_Slots (fun r1 =>
    k r1 s_Count)
noncomputable def impl_copyShelf (A : PM.Prims) : impl_copyShelf_T := impl_copyShelf_f A (impl_copyInts A)
noncomputable def impl_copyShelf_L (A : PM.Prims) (c_30 : impl_copyInts_T) (n : Nat) : PM.Lam := fun cur σ K =>
  match cur, σ, K with
  | _, _, _ => none
noncomputable def impl_copyShelf_E (A : PM.Prims) (c_30 : impl_copyInts_T) : PM.Env := ⟨[(30, ⟨[], impl_copyInts_w c_30, none⟩)], [], [], [(0, [1, 2]), (1, [2])], impl_copyShelf_L A c_30 A.fuel⟩
theorem impl_copyShelf_ok (A : PM.Prims) (c_30 : impl_copyInts_T) (s_Slots : List Int) (s_Count : Int) (k : PM.V → PM.R) : PM.pfun A cx [] (impl_copyShelf_E A c_30) Go.Proofs.Try.f50 [.agg [.arr (.ints 3 .i64 s_Slots), .int .i64 s_Count]] k = impl_copyShelf_f A c_30 s_Slots s_Count (fun r0_Slots r0_Count => k (.agg [.arr (.ints 3 .i64 r0_Slots), .int .i64 r0_Count])) := by kernel_rfl

theorem impl_copyShelf_fn : PM.FnIs Try.prog 50 Try.f50 := .of Try.func50 (by kernel_rfl) (by kernel_rfl)
theorem impl_copyShelf_g : PM.GOk Try.prog cx 50 ⟨[], impl_copyShelf_w (impl_copyShelf PM.std), none⟩ := by
  refine ⟨impl_copyShelf_fn.enter, fun _ ds k r h => ?_, fun hm => absurd rfl hm, fun _ e => (by cases e)⟩
  change impl_copyShelf_w (impl_copyShelf PM.std) ds k = some r at h
  unfold impl_copyShelf_w at h
  split at h
  · exact PM.pfun_ok (E := impl_copyShelf_E PM.std (impl_copyInts PM.std)) (L := fun n => impl_copyShelf_L PM.std (impl_copyInts PM.std) n) (N := PM.std.fuel) cx_ok (.cons impl_copyInts_g .nil) mixed .nil impl_copyShelf_fn (by kernel_rfl) ⟨rfl, fun _ _ _ => rfl, fun n cur σ K r h => by cases h⟩
      ((impl_copyShelf_ok PM.std (impl_copyInts PM.std) _ _ k).trans h)
  · cases h

abbrev impl_ShelfOk_T := (List Int) → (Int) → ((Bool) → PM.R) → PM.R
noncomputable def impl_ShelfOk_w (c : impl_ShelfOk_T) (ds : List PM.V) (k : PM.V → PM.R) : PM.R :=
  match ds with
  | [.agg [.arr (.ints 3 .i64 s_Slots), .int .i64 s_Count]] => c s_Slots s_Count (fun r0 => k (.bool r0))
  | _ => none
noncomputable def impl_ShelfOk_f (A : PM.Prims) (c_31 : impl_SlotsOk_T) (c_33 : impl_isValue_T) (s_Slots : List Int) (s_Count : Int) (k : (Bool) → PM.R) : PM.R :=
  c_31 s_Slots (fun r1 =>
    bif r1 then
      c_33 s_Count (fun r2 =>
        k r2)
    else
      k false)
noncomputable def impl_ShelfOk (A : PM.Prims) : impl_ShelfOk_T := impl_ShelfOk_f A (impl_SlotsOk A) (impl_isValue A)
noncomputable def impl_ShelfOk_L (A : PM.Prims) (c_31 : impl_SlotsOk_T) (c_33 : impl_isValue_T) (n : Nat) : PM.Lam := fun cur σ K =>
  match cur, σ, K with
  | _, _, _ => none
noncomputable def impl_ShelfOk_E (A : PM.Prims) (c_31 : impl_SlotsOk_T) (c_33 : impl_isValue_T) : PM.Env := ⟨[(31, ⟨[], impl_SlotsOk_w c_31, none⟩), (33, ⟨[], impl_isValue_w c_33, none⟩)], [], [], [(0, [1]), (1, [2])], impl_ShelfOk_L A c_31 c_33 A.fuel⟩
theorem impl_ShelfOk_ok (A : PM.Prims) (c_31 : impl_SlotsOk_T) (c_33 : impl_isValue_T) (s_Slots : List Int) (s_Count : Int) (k : PM.V → PM.R) : PM.pfun A cx [] (impl_ShelfOk_E A c_31 c_33) Go.Proofs.Try.f51 [.agg [.arr (.ints 3 .i64 s_Slots), .int .i64 s_Count]] k = impl_ShelfOk_f A c_31 c_33 s_Slots s_Count (fun r0 => k (.bool r0)) := by kernel_rfl

theorem impl_ShelfOk_fn : PM.FnIs Try.prog 51 Try.f51 := .of Try.func51 (by kernel_rfl) (by kernel_rfl)
theorem impl_ShelfOk_g : PM.GOk Try.prog cx 51 ⟨[], impl_ShelfOk_w (impl_ShelfOk PM.std), none⟩ := by
  refine ⟨impl_ShelfOk_fn.enter, fun _ ds k r h => ?_, fun hm => absurd rfl hm, fun _ e => (by cases e)⟩
  change impl_ShelfOk_w (impl_ShelfOk PM.std) ds k = some r at h
  unfold impl_ShelfOk_w at h
  split at h
  · exact PM.pfun_ok (E := impl_ShelfOk_E PM.std (impl_SlotsOk PM.std) (impl_isValue PM.std)) (L := fun n => impl_ShelfOk_L PM.std (impl_SlotsOk PM.std) (impl_isValue PM.std) n) (N := PM.std.fuel) cx_ok (.cons impl_SlotsOk_g (.cons impl_isValue_g .nil)) mixed .nil impl_ShelfOk_fn (by kernel_rfl) ⟨rfl, fun _ _ _ => rfl, fun n cur σ K r h => by cases h⟩
      ((impl_ShelfOk_ok PM.std (impl_SlotsOk PM.std) (impl_isValue PM.std) _ _ k).trans h)
  · cases h

abbrev impl_areValues_T := (List Int) → (Int) → ((Bool) → PM.R) → PM.R
noncomputable def impl_areValues_w (c : impl_areValues_T) (ds : List PM.V) (k : PM.V → PM.R) : PM.R :=
  match ds with
  | [.arr (.ints 3 .i64 l), .int .i64 n_] => c l n_ (fun r0 => k (.bool r0))
  | _ => none
noncomputable def impl_areValues_l0 (A : PM.Prims) (c_33 : impl_isValue_T) : Nat → (List Int) → (Int) → (List Int) → (Int) → (Int) → ((Bool) → PM.R) → ((List Int) → (Int) → PM.R) → PM.R
  | 0, _, _, _, _, _, _, _ => none
  | n + 1, l1, n2, t73, t84, t95, kret_0, kx0_0 =>
    bif (A.lt t95 t84) then
      bif (A.inb t95 (A.ilen t73)) then
        c_33 (A.iget t73 t95) (fun r6 =>
          bif (A.not r6) then
            kret_0 false
          else
            impl_areValues_l0 A c_33 n l1 n2 t73 t84 (A.add .i64 t95 1) kret_0 kx0_0)
      else
        none
    else
      kx0_0 l1 n2
noncomputable def impl_areValues_f (A : PM.Prims) (c_33 : impl_isValue_T) (l : List Int) (n_ : Int) (k : (Bool) → PM.R) : PM.R :=
  impl_areValues_l0 A c_33 A.fuel l n_ l (A.ilen l) 0 (fun t4710 =>
    k t4710) (fun l811 n912 =>
    k (A.eq (A.ilen l811) n912))
noncomputable def impl_areValues (A : PM.Prims) : impl_areValues_T := impl_areValues_f A (impl_isValue A)
noncomputable def impl_areValues_L (A : PM.Prims) (c_33 : impl_isValue_T) (n : Nat) : PM.Lam := fun cur σ K =>
  match cur, σ, K with
  | 0, ⟨[(0, .arr (.ints 3 .i64 l1)), (1, .int .i64 n2), (7, .arr (.ints 3 .i64 t73)), (8, .int .i64 t84), (9, .int .i64 t95)], []⟩, K => impl_areValues_l0 A c_33 n l1 n2 t73 t84 t95 (fun t47 => K .ret ⟨[(4, .bool t47)], []⟩) (fun l8 n9 => K (.exit 0) ⟨[(0, .arr (.ints 3 .i64 l8)), (1, .int .i64 n9)], []⟩)
  | _, _, _ => none
noncomputable def impl_areValues_E (A : PM.Prims) (c_33 : impl_isValue_T) : PM.Env := ⟨[(33, ⟨[], impl_isValue_w c_33, none⟩)], [], [(0, [0, 1, 7, 8, 9], [0, 1, 4])], [(0, [0, 1]), (1, [0, 1, 7, 8, 9]), (2, [0, 1, 7, 8, 9, 10]), (3, [0, 1, 6, 7, 8, 9]), (4, [0, 1, 7, 8, 9, 15]), (5, [4]), (6, [0, 1, 7, 8, 9]), (7, [4])], impl_areValues_L A c_33 A.fuel⟩
theorem impl_areValues_l0_ok (A : PM.Prims) (c_33 : impl_isValue_T) (n : Nat) (l1 : List Int) (n2 : Int) (t73 : List Int) (t84 : Int) (t95 : Int) (K : Go.Exit → PM.S → PM.R) : impl_areValues_L A c_33 (n + 1) 0 ⟨[(0, .arr (.ints 3 .i64 l1)), (1, .int .i64 n2), (7, .arr (.ints 3 .i64 t73)), (8, .int .i64 t84), (9, .int .i64 t95)], []⟩ K = PM.roundF A cx (PM.runD A cx (impl_areValues_E A c_33).inl (impl_areValues_E A c_33).Γ 3) (impl_areValues_E A c_33) (impl_areValues_L A c_33 n) 0 Go.Proofs.Try.f52 ⟨[(0, .arr (.ints 3 .i64 l1)), (1, .int .i64 n2), (7, .arr (.ints 3 .i64 t73)), (8, .int .i64 t84), (9, .int .i64 t95)], []⟩ K := by kernel_rfl
theorem impl_areValues_ok (A : PM.Prims) (c_33 : impl_isValue_T) (l : List Int) (n_ : Int) (k : PM.V → PM.R) : PM.pfun A cx [] (impl_areValues_E A c_33) Go.Proofs.Try.f52 [.arr (.ints 3 .i64 l), .int .i64 n_] k = impl_areValues_f A c_33 l n_ (fun r0 => k (.bool r0)) := by kernel_rfl

theorem impl_areValues_fn : PM.FnIs Try.prog 52 Try.f52 := .of Try.func52 (by kernel_rfl) (by kernel_rfl)
theorem impl_areValues_g : PM.GOk Try.prog cx 52 ⟨[], impl_areValues_w (impl_areValues PM.std), none⟩ := by
  refine ⟨impl_areValues_fn.enter, fun _ ds k r h => ?_, fun hm => absurd rfl hm, fun _ e => (by cases e)⟩
  change impl_areValues_w (impl_areValues PM.std) ds k = some r at h
  unfold impl_areValues_w at h
  split at h
  · exact PM.pfun_ok (E := impl_areValues_E PM.std (impl_isValue PM.std)) (L := fun n => impl_areValues_L PM.std (impl_isValue PM.std) n) (N := PM.std.fuel) cx_ok (.cons impl_isValue_g .nil) mixed .nil impl_areValues_fn (by kernel_rfl) ⟨rfl, fun cur σ K => by
      dsimp only [impl_areValues_L]
      split <;> rfl, fun n cur σ K r h => by
      dsimp only [impl_areValues_L] at h
      split at h
      · exact (impl_areValues_l0_ok PM.std (impl_isValue PM.std) n _ _ _ _ _ K).symm.trans h
      · cases h⟩
      ((impl_areValues_ok PM.std (impl_isValue PM.std) _ _ k).trans h)
  · cases h

abbrev impl_Touches_T := (Int) → (Int) → (Int) → (Int) → ((Int) → PM.R) → PM.R
noncomputable def impl_Touches_w (c : impl_Touches_T) (ds : List PM.V) (k : PM.V → PM.R) : PM.R :=
  match ds with
  | [.agg [.int .i64 o_Kind, .int .i64 o_A, .int .i64 o_B, .int .i64 o_C]] => c o_Kind o_A o_B o_C (fun r0 => k (.int .i64 r0))
  | _ => none
noncomputable def impl_Touches_f (A : PM.Prims) (c_49 : impl_OpOk_T) (o_Kind : Int) (o_A : Int) (o_B : Int) (o_C : Int) (k : (Int) → PM.R) : PM.R :=
  c_49 o_Kind o_A o_B o_C (fun r1 =>
    bif (A.not r1) then
      k 0
    else
      bif (A.eq o_Kind 5) then
        k 1
      else
        bif (A.eq o_Kind 6) then
          k 1
        else
          bif (A.eq o_Kind 12) then
            k 2
          else
            bif (A.eq o_Kind 13) then
              k 2
            else
              bif (A.eq o_Kind 14) then
                k 2
              else
                bif (A.eq o_Kind 15) then
                  k 2
                else
                  bif (A.eq o_Kind 16) then
                    k 2
                  else
                    k 0)
noncomputable def impl_Touches (A : PM.Prims) : impl_Touches_T := impl_Touches_f A (impl_OpOk A)
noncomputable def impl_Touches_L (A : PM.Prims) (c_49 : impl_OpOk_T) (n : Nat) : PM.Lam := fun cur σ K =>
  match cur, σ, K with
  | _, _, _ => none
noncomputable def impl_Touches_E (A : PM.Prims) (c_49 : impl_OpOk_T) : PM.Env := ⟨[(49, ⟨[], impl_OpOk_w c_49, none⟩)], [], [], [(0, [1]), (1, [1, 5]), (2, [2]), (3, [7]), (4, [7, 8]), (5, [7, 8]), (6, [2]), (7, [7, 11]), (8, [7, 11]), (9, [7, 11]), (10, [7, 11]), (11, [11]), (12, [2]), (13, [2])], impl_Touches_L A c_49 A.fuel⟩
theorem impl_Touches_ok (A : PM.Prims) (c_49 : impl_OpOk_T) (o_Kind : Int) (o_A : Int) (o_B : Int) (o_C : Int) (k : PM.V → PM.R) : PM.pfun A cx [] (impl_Touches_E A c_49) Go.Proofs.Try.f53 [.agg [.int .i64 o_Kind, .int .i64 o_A, .int .i64 o_B, .int .i64 o_C]] k = impl_Touches_f A c_49 o_Kind o_A o_B o_C (fun r0 => k (.int .i64 r0)) := by kernel_rfl

theorem impl_Touches_fn : PM.FnIs Try.prog 53 Try.f53 := .of Try.func53 (by kernel_rfl) (by kernel_rfl)
theorem impl_Touches_g : PM.GOk Try.prog cx 53 ⟨[], impl_Touches_w (impl_Touches PM.std), none⟩ := by
  refine ⟨impl_Touches_fn.enter, fun _ ds k r h => ?_, fun hm => absurd rfl hm, fun _ e => (by cases e)⟩
  change impl_Touches_w (impl_Touches PM.std) ds k = some r at h
  unfold impl_Touches_w at h
  split at h
  · exact PM.pfun_ok (E := impl_Touches_E PM.std (impl_OpOk PM.std)) (L := fun n => impl_Touches_L PM.std (impl_OpOk PM.std) n) (N := PM.std.fuel) cx_ok (.cons impl_OpOk_g .nil) mixed .nil impl_Touches_fn (by kernel_rfl) ⟨rfl, fun _ _ _ => rfl, fun n cur σ K r h => by cases h⟩
      ((impl_Touches_ok PM.std (impl_OpOk PM.std) _ _ _ _ k).trans h)
  · cases h

abbrev impl_backTo_T := (Int) → (Int) → ((Int) → (Int) → (Int) → PM.R) → PM.R
noncomputable def impl_backTo_w (c : impl_backTo_T) (ds : List PM.V) (k : PM.V → PM.R) : PM.R :=
  match ds with
  | [.int .i64 key, .int .i64 entry] => c key entry (fun r0_Kind r0_Key r0_Val => k (.agg [.int .i64 r0_Kind, .int .i64 r0_Key, .int .i64 r0_Val]))
  | _ => none
noncomputable def impl_backTo_f (A : PM.Prims) (key : Int) (entry : Int) (k : (Int) → (Int) → (Int) → PM.R) : PM.R :=
  bif (A.eq entry 0) then
    k 2 key 0
  else
    k 1 key (A.sub .i64 entry 1)
noncomputable def impl_backTo (A : PM.Prims) : impl_backTo_T := impl_backTo_f A
noncomputable def impl_backTo_L (A : PM.Prims) (n : Nat) : PM.Lam := fun cur σ K =>
  match cur, σ, K with
  | _, _, _ => none
noncomputable def impl_backTo_E (A : PM.Prims) : PM.Env := ⟨[], [], [], [(0, [0, 1, 4]), (1, [0, 1, 4, 6]), (2, [4]), (3, [4])], impl_backTo_L A A.fuel⟩
theorem impl_backTo_ok (A : PM.Prims) (key : Int) (entry : Int) (k : PM.V → PM.R) : PM.pfun A cx [] (impl_backTo_E A) Go.Proofs.Try.f54 [.int .i64 key, .int .i64 entry] k = impl_backTo_f A key entry (fun r0_Kind r0_Key r0_Val => k (.agg [.int .i64 r0_Kind, .int .i64 r0_Key, .int .i64 r0_Val])) := by kernel_rfl

theorem impl_backTo_fn : PM.FnIs Try.prog 54 Try.f54 := .of Try.func54 (by kernel_rfl) (by kernel_rfl)
theorem impl_backTo_g : PM.GOk Try.prog cx 54 ⟨[], impl_backTo_w (impl_backTo PM.std), none⟩ := by
  refine ⟨impl_backTo_fn.enter, fun _ ds k r h => ?_, fun hm => absurd rfl hm, fun _ e => (by cases e)⟩
  change impl_backTo_w (impl_backTo PM.std) ds k = some r at h
  unfold impl_backTo_w at h
  split at h
  · exact PM.pfun_ok (E := impl_backTo_E PM.std) (L := fun n => impl_backTo_L PM.std n) (N := PM.std.fuel) cx_ok .nil mixed .nil impl_backTo_fn (by kernel_rfl) ⟨rfl, fun _ _ _ => rfl, fun n cur σ K r h => by cases h⟩
      ((impl_backTo_ok PM.std _ _ k).trans h)
  · cases h

abbrev impl_BoostDo_T := (List Int) → (Int) → (Int) → (Int) → (Int) → (Int) → (List Int) → ((List Int) → (Int) → (List Int) → (Int) → (Int) → (Int) → (Bool) → PM.R) → PM.R
noncomputable def impl_BoostDo_w (c : impl_BoostDo_T) (ds : List PM.V) (k : PM.V → PM.R) : PM.R :=
  match ds with
  | [.agg [.arr (.ints 3 .i64 ___Slots), .int .i64 ___Count], .agg [.int .i64 a_Kind, .int .i64 a_A, .int .i64 a_B, .int .i64 a_C], .arr (.ints 3 .i64 r)] => c ___Slots ___Count a_Kind a_A a_B a_C r (fun r0_Slots r0_Count r1 r2_Kind r2_Key r2_Val r3 => k (.tup [.agg [.arr (.ints 3 .i64 r0_Slots), .int .i64 r0_Count], .arr (.ints 3 .i64 r1), .agg [.int .i64 r2_Kind, .int .i64 r2_Key, .int .i64 r2_Val], .bool r3]))
  | _ => none
noncomputable def impl_BoostDo_f (A : PM.Prims) (c_30 : impl_copyInts_T) (c_12 : impl_SlotGet_T) (c_8 : impl_SlotPut_T) (c_13 : impl_SlotDrop_T) (c_50 : impl_copyShelf_T) (c_51 : impl_ShelfOk_T) (c_52 : impl_areValues_T) (c_53 : impl_Touches_T) (c_54 : impl_backTo_T) (___Slots : List Int) (___Count : Int) (a_Kind : Int) (a_A : Int) (a_B : Int) (a_C : Int) (r : List Int) (k : (List Int) → (Int) → (List Int) → (Int) → (Int) → (Int) → (Bool) → PM.R) : PM.R :=
  c_50 ___Slots ___Count (fun r1 r2 =>
    c_30 r (fun r3 =>
      c_51 r1 r2 (fun r4 =>
        bif (A.not r4) then
          k r1 r2 r3 0 0 0 false
        else
          c_52 r3 4 (fun r5 =>
            bif (A.not r5) then
              k r1 r2 r3 0 0 0 false
            else
              c_53 a_Kind a_A a_B a_C (fun r6 =>
                bif (A.not (A.eq r6 2)) then
                  k r1 r2 r3 0 0 0 false
                else
                  bif (A.eq a_Kind 12) then
                    bif (A.inb a_B (A.ilen r3)) then
                      c_8 r1 a_A (A.iget r3 a_B) (fun r7 r8 r9 =>
                        bif (A.nz 65536) then
                          bif (A.inb a_C (A.ilen r3)) then
                            c_54 a_A r8 (fun r10 r11 r12 =>
                              k r7 r2 (A.iset r3 a_C (A.rem .i64 r8 65536)) r10 r11 r12 true)
                          else
                            none
                        else
                          none)
                    else
                      none
                  else
                    bif (A.eq a_Kind 13) then
                      c_12 r1 a_B (fun r13 r14 =>
                        bif (A.inb a_A (A.ilen r3)) then
                          bif r14 then
                            bif (A.nz 65536) then
                              bif (A.inb a_A (A.ilen (A.iset r3 a_A 0))) then
                                k r1 r2 (A.iset (A.iset r3 a_A 0) a_A (A.rem .i64 (A.add .i64 r13 1) 65536)) 0 0 0 true
                              else
                                none
                            else
                              none
                          else
                            k r1 r2 (A.iset r3 a_A 0) 0 0 0 true
                        else
                          none)
                    else
                      bif (A.eq a_Kind 14) then
                        c_13 r1 a_A (fun r15 r16 r17 =>
                          bif (A.nz 65536) then
                            bif (A.inb a_B (A.ilen r3)) then
                              c_54 a_A r16 (fun r18 r19 r20 =>
                                k r15 r2 (A.iset r3 a_B (A.rem .i64 r16 65536)) r18 r19 r20 true)
                            else
                              none
                          else
                            none)
                      else
                        bif (A.eq a_Kind 15) then
                          bif (A.inb a_A (A.ilen r3)) then
                            bif (A.nz 65536) then
                              bif (A.inb a_A (A.ilen r3)) then
                                k r1 (A.rem .i64 (A.add .i64 r2 (A.iget r3 a_A)) 65536) r3 3 0 (A.iget r3 a_A) true
                              else
                                none
                            else
                              none
                          else
                            none
                        else
                          bif (A.inb a_A (A.ilen r3)) then
                            k r1 r2 (A.iset r3 a_A r2) 0 0 0 true
                          else
                            none)))))
noncomputable def impl_BoostDo (A : PM.Prims) : impl_BoostDo_T := impl_BoostDo_f A (impl_copyInts A) (impl_SlotGet A) (impl_SlotPut A) (impl_SlotDrop A) (impl_copyShelf A) (impl_ShelfOk A) (impl_areValues A) (impl_Touches A) (impl_backTo A)
noncomputable def impl_BoostDo_L (A : PM.Prims) (c_30 : impl_copyInts_T) (c_12 : impl_SlotGet_T) (c_8 : impl_SlotPut_T) (c_13 : impl_SlotDrop_T) (c_50 : impl_copyShelf_T) (c_51 : impl_ShelfOk_T) (c_52 : impl_areValues_T) (c_53 : impl_Touches_T) (c_54 : impl_backTo_T) (n : Nat) : PM.Lam := fun cur σ K =>
  match cur, σ, K with
  | _, _, _ => none
noncomputable def impl_BoostDo_E (A : PM.Prims) (c_30 : impl_copyInts_T) (c_12 : impl_SlotGet_T) (c_8 : impl_SlotPut_T) (c_13 : impl_SlotDrop_T) (c_50 : impl_copyShelf_T) (c_51 : impl_ShelfOk_T) (c_52 : impl_areValues_T) (c_53 : impl_Touches_T) (c_54 : impl_backTo_T) : PM.Env := ⟨[(30, ⟨[], impl_copyInts_w c_30, none⟩), (12, ⟨[], impl_SlotGet_w c_12, none⟩), (8, ⟨[], impl_SlotPut_w c_8, none⟩), (13, ⟨[], impl_SlotDrop_w c_13, none⟩), (50, ⟨[], impl_copyShelf_w c_50, none⟩), (51, ⟨[], impl_ShelfOk_w c_51, none⟩), (52, ⟨[], impl_areValues_w c_52, none⟩), (53, ⟨[], impl_Touches_w c_53, none⟩), (54, ⟨[], impl_backTo_w c_54, none⟩)], [], [], [(0, [2, 3, 4, 6, 8]), (1, [2, 3, 4, 6, 8]), (2, [2, 3, 4, 6, 8]), (3, [2, 3, 4, 6, 8, 35]), (4, [6, 7, 8, 9]), (5, [2, 3, 4, 6, 8, 10]), (6, [2, 3, 4, 6, 8, 10, 41]), (7, [2, 3, 6, 8, 10]), (8, [2, 3, 4, 6, 8, 10, 41, 48]), (9, [2, 3, 4, 6, 8, 10, 11, 12]), (10, [2, 3, 4, 6, 8, 10, 12]), (11, [2, 3, 4, 6, 8, 10, 12]), (12, [2, 3, 6, 8, 10]), (13, [2, 3, 4, 6, 8, 10, 41, 76]), (14, [2, 3, 4, 6, 8, 10, 14, 15]), (15, [2, 3, 4, 6, 8, 10, 14, 15]), (16, [2, 3, 4, 6, 8, 10, 14, 90]), (17, [2, 3, 6, 8, 10]), (18, [2, 3, 4, 6, 8, 10, 41, 98]), (19, [2, 3, 4, 6, 8, 10, 16, 17]), (20, [2, 3, 4, 6, 8, 10, 17]), (21, [2, 3, 4, 6, 8, 10, 17]), (22, [2, 3, 6, 8, 10]), (23, [2, 3, 4, 6, 8, 10, 121]), (24, [2, 3, 4, 6, 8, 10]), (25, [2, 3, 6, 8, 10]), (26, [6, 7, 8, 9])], impl_BoostDo_L A c_30 c_12 c_8 c_13 c_50 c_51 c_52 c_53 c_54 A.fuel⟩
theorem impl_BoostDo_ok (A : PM.Prims) (c_30 : impl_copyInts_T) (c_12 : impl_SlotGet_T) (c_8 : impl_SlotPut_T) (c_13 : impl_SlotDrop_T) (c_50 : impl_copyShelf_T) (c_51 : impl_ShelfOk_T) (c_52 : impl_areValues_T) (c_53 : impl_Touches_T) (c_54 : impl_backTo_T) (___Slots : List Int) (___Count : Int) (a_Kind : Int) (a_A : Int) (a_B : Int) (a_C : Int) (r : List Int) (k : PM.V → PM.R) : PM.pfun A cx [] (impl_BoostDo_E A c_30 c_12 c_8 c_13 c_50 c_51 c_52 c_53 c_54) Go.Proofs.Try.f21 [.agg [.arr (.ints 3 .i64 ___Slots), .int .i64 ___Count], .agg [.int .i64 a_Kind, .int .i64 a_A, .int .i64 a_B, .int .i64 a_C], .arr (.ints 3 .i64 r)] k = impl_BoostDo_f A c_30 c_12 c_8 c_13 c_50 c_51 c_52 c_53 c_54 ___Slots ___Count a_Kind a_A a_B a_C r (fun r0_Slots r0_Count r1 r2_Kind r2_Key r2_Val r3 => k (.tup [.agg [.arr (.ints 3 .i64 r0_Slots), .int .i64 r0_Count], .arr (.ints 3 .i64 r1), .agg [.int .i64 r2_Kind, .int .i64 r2_Key, .int .i64 r2_Val], .bool r3])) := by kernel_rfl

theorem impl_BoostDo_fn : PM.FnIs Try.prog 21 Try.f21 := .of Try.func21 (by kernel_rfl) (by kernel_rfl)
theorem impl_BoostDo_g : PM.GOk Try.prog cx 21 ⟨[], impl_BoostDo_w (impl_BoostDo PM.std), none⟩ := by
  refine ⟨impl_BoostDo_fn.enter, fun _ ds k r h => ?_, fun hm => absurd rfl hm, fun _ e => (by cases e)⟩
  change impl_BoostDo_w (impl_BoostDo PM.std) ds k = some r at h
  unfold impl_BoostDo_w at h
  split at h
  · exact PM.pfun_ok (E := impl_BoostDo_E PM.std (impl_copyInts PM.std) (impl_SlotGet PM.std) (impl_SlotPut PM.std) (impl_SlotDrop PM.std) (impl_copyShelf PM.std) (impl_ShelfOk PM.std) (impl_areValues PM.std) (impl_Touches PM.std) (impl_backTo PM.std)) (L := fun n => impl_BoostDo_L PM.std (impl_copyInts PM.std) (impl_SlotGet PM.std) (impl_SlotPut PM.std) (impl_SlotDrop PM.std) (impl_copyShelf PM.std) (impl_ShelfOk PM.std) (impl_areValues PM.std) (impl_Touches PM.std) (impl_backTo PM.std) n) (N := PM.std.fuel) cx_ok (.cons impl_copyInts_g (.cons impl_SlotGet_g (.cons impl_SlotPut_g (.cons impl_SlotDrop_g (.cons impl_copyShelf_g (.cons impl_ShelfOk_g (.cons impl_areValues_g (.cons impl_Touches_g (.cons impl_backTo_g .nil))))))))) mixed .nil impl_BoostDo_fn (by kernel_rfl) ⟨rfl, fun _ _ _ => rfl, fun n cur σ K r h => by cases h⟩
      ((impl_BoostDo_ok PM.std (impl_copyInts PM.std) (impl_SlotGet PM.std) (impl_SlotPut PM.std) (impl_SlotDrop PM.std) (impl_copyShelf PM.std) (impl_ShelfOk PM.std) (impl_areValues PM.std) (impl_Touches PM.std) (impl_backTo PM.std) _ _ _ _ _ _ _ k).trans h)
  · cases h

abbrev impl_UndoOk_T := (Int) → (Int) → (Int) → ((Bool) → PM.R) → PM.R
noncomputable def impl_UndoOk_w (c : impl_UndoOk_T) (ds : List PM.V) (k : PM.V → PM.R) : PM.R :=
  match ds with
  | [.agg [.int .i64 u_Kind, .int .i64 u_Key, .int .i64 u_Val]] => c u_Kind u_Key u_Val (fun r0 => k (.bool r0))
  | _ => none
noncomputable def impl_UndoOk_f (A : PM.Prims) (c_32 : impl_isKey_T) (c_33 : impl_isValue_T) (u_Kind : Int) (u_Key : Int) (u_Val : Int) (k : (Bool) → PM.R) : PM.R :=
  bif (A.eq u_Kind 0) then
    bif (A.eq u_Key 0) then
      k (A.eq u_Val 0)
    else
      k false
  else
    bif (A.eq u_Kind 1) then
      c_32 u_Key (fun r1 =>
        bif r1 then
          c_33 u_Val (fun r2 =>
            k r2)
        else
          k false)
    else
      bif (A.eq u_Kind 2) then
        c_32 u_Key (fun r3 =>
          bif r3 then
            k (A.eq u_Val 0)
          else
            k false)
      else
        bif (A.eq u_Kind 3) then
          bif (A.eq u_Key 0) then
            c_33 u_Val (fun r4 =>
              k r4)
          else
            k false
        else
          k false
noncomputable def impl_UndoOk (A : PM.Prims) : impl_UndoOk_T := impl_UndoOk_f A (impl_isKey A) (impl_isValue A)
noncomputable def impl_UndoOk_L (A : PM.Prims) (c_32 : impl_isKey_T) (c_33 : impl_isValue_T) (n : Nat) : PM.Lam := fun cur σ K =>
  match cur, σ, K with
  | _, _, _ => none
noncomputable def impl_UndoOk_E (A : PM.Prims) (c_32 : impl_isKey_T) (c_33 : impl_isValue_T) : PM.Env := ⟨[(32, ⟨[], impl_isKey_w c_32, none⟩), (33, ⟨[], impl_isValue_w c_33, none⟩)], [], [], [(0, [1]), (1, [1, 4]), (2, [1, 4, 5]), (3, [2]), (4, [1, 4, 15]), (5, [2]), (6, [1, 4, 25]), (7, [2]), (8, [1, 35]), (9, [2]), (10, [2])], impl_UndoOk_L A c_32 c_33 A.fuel⟩
theorem impl_UndoOk_ok (A : PM.Prims) (c_32 : impl_isKey_T) (c_33 : impl_isValue_T) (u_Kind : Int) (u_Key : Int) (u_Val : Int) (k : PM.V → PM.R) : PM.pfun A cx [] (impl_UndoOk_E A c_32 c_33) Go.Proofs.Try.f25 [.agg [.int .i64 u_Kind, .int .i64 u_Key, .int .i64 u_Val]] k = impl_UndoOk_f A c_32 c_33 u_Kind u_Key u_Val (fun r0 => k (.bool r0)) := by kernel_rfl

theorem impl_UndoOk_fn : PM.FnIs Try.prog 25 Try.f25 := .of Try.func25 (by kernel_rfl) (by kernel_rfl)
theorem impl_UndoOk_g : PM.GOk Try.prog cx 25 ⟨[], impl_UndoOk_w (impl_UndoOk PM.std), none⟩ := by
  refine ⟨impl_UndoOk_fn.enter, fun _ ds k r h => ?_, fun hm => absurd rfl hm, fun _ e => (by cases e)⟩
  change impl_UndoOk_w (impl_UndoOk PM.std) ds k = some r at h
  unfold impl_UndoOk_w at h
  split at h
  · exact PM.pfun_ok (E := impl_UndoOk_E PM.std (impl_isKey PM.std) (impl_isValue PM.std)) (L := fun n => impl_UndoOk_L PM.std (impl_isKey PM.std) (impl_isValue PM.std) n) (N := PM.std.fuel) cx_ok (.cons impl_isKey_g (.cons impl_isValue_g .nil)) mixed .nil impl_UndoOk_fn (by kernel_rfl) ⟨rfl, fun _ _ _ => rfl, fun n cur σ K r h => by cases h⟩
      ((impl_UndoOk_ok PM.std (impl_isKey PM.std) (impl_isValue PM.std) _ _ _ k).trans h)
  · cases h

abbrev impl_UndoOne_T := (List Int) → (Int) → (Int) → (Int) → (Int) → ((List Int) → (Int) → (Bool) → PM.R) → PM.R
noncomputable def impl_UndoOne_w (c : impl_UndoOne_T) (ds : List PM.V) (k : PM.V → PM.R) : PM.R :=
  match ds with
  | [.agg [.arr (.ints 3 .i64 s_Slots), .int .i64 s_Count], .agg [.int .i64 u_Kind, .int .i64 u_Key, .int .i64 u_Val]] => c s_Slots s_Count u_Kind u_Key u_Val (fun r0_Slots r0_Count r1 => k (.tup [.agg [.arr (.ints 3 .i64 r0_Slots), .int .i64 r0_Count], .bool r1]))
  | _ => none
noncomputable def impl_UndoOne_f (A : PM.Prims) (c_8 : impl_SlotPut_T) (c_13 : impl_SlotDrop_T) (c_50 : impl_copyShelf_T) (c_51 : impl_ShelfOk_T) (c_25 : impl_UndoOk_T) (s_Slots : List Int) (s_Count : Int) (u_Kind : Int) (u_Key : Int) (u_Val : Int) (k : (List Int) → (Int) → (Bool) → PM.R) : PM.R :=
  c_50 s_Slots s_Count (fun r1 r2 =>
    c_51 r1 r2 (fun r3 =>
      bif (A.not r3) then
        k r1 r2 false
      else
        c_25 u_Kind u_Key u_Val (fun r4 =>
          bif (A.not r4) then
            k r1 r2 false
          else
            bif (A.eq u_Kind 1) then
              c_8 r1 u_Key u_Val (fun r5 r6 r7 =>
                k r5 r2 true)
            else
              bif (A.eq u_Kind 2) then
                c_13 r1 u_Key (fun r8 r9 r10 =>
                  k r8 r2 true)
              else
                bif (A.eq u_Kind 3) then
                  bif (A.nz 65536) then
                    k r1 (A.rem .i64 (A.add .i64 (A.sub .i64 r2 u_Val) 65536) 65536) true
                  else
                    none
                else
                  k r1 r2 true)))
noncomputable def impl_UndoOne (A : PM.Prims) : impl_UndoOne_T := impl_UndoOne_f A (impl_SlotPut A) (impl_SlotDrop A) (impl_copyShelf A) (impl_ShelfOk A) (impl_UndoOk A)
noncomputable def impl_UndoOne_L (A : PM.Prims) (c_8 : impl_SlotPut_T) (c_13 : impl_SlotDrop_T) (c_50 : impl_copyShelf_T) (c_51 : impl_ShelfOk_T) (c_25 : impl_UndoOk_T) (n : Nat) : PM.Lam := fun cur σ K =>
  match cur, σ, K with
  | _, _, _ => none
noncomputable def impl_UndoOne_E (A : PM.Prims) (c_8 : impl_SlotPut_T) (c_13 : impl_SlotDrop_T) (c_50 : impl_copyShelf_T) (c_51 : impl_ShelfOk_T) (c_25 : impl_UndoOk_T) : PM.Env := ⟨[(8, ⟨[], impl_SlotPut_w c_8, none⟩), (13, ⟨[], impl_SlotDrop_w c_13, none⟩), (50, ⟨[], impl_copyShelf_w c_50, none⟩), (51, ⟨[], impl_ShelfOk_w c_51, none⟩), (25, ⟨[], impl_UndoOk_w c_25, none⟩)], [], [], [(0, [2, 3, 4]), (1, [2, 3, 4]), (2, [2, 3, 4, 15]), (3, [4, 5]), (4, [2, 3, 4, 18]), (5, [2, 3, 4, 18, 19]), (6, [2, 4]), (7, [2, 3, 4, 18, 33]), (8, [2, 4]), (9, [2, 3, 4, 45]), (10, [2, 4]), (11, [4, 5])], impl_UndoOne_L A c_8 c_13 c_50 c_51 c_25 A.fuel⟩
theorem impl_UndoOne_ok (A : PM.Prims) (c_8 : impl_SlotPut_T) (c_13 : impl_SlotDrop_T) (c_50 : impl_copyShelf_T) (c_51 : impl_ShelfOk_T) (c_25 : impl_UndoOk_T) (s_Slots : List Int) (s_Count : Int) (u_Kind : Int) (u_Key : Int) (u_Val : Int) (k : PM.V → PM.R) : PM.pfun A cx [] (impl_UndoOne_E A c_8 c_13 c_50 c_51 c_25) Go.Proofs.Try.f22 [.agg [.arr (.ints 3 .i64 s_Slots), .int .i64 s_Count], .agg [.int .i64 u_Kind, .int .i64 u_Key, .int .i64 u_Val]] k = impl_UndoOne_f A c_8 c_13 c_50 c_51 c_25 s_Slots s_Count u_Kind u_Key u_Val (fun r0_Slots r0_Count r1 => k (.tup [.agg [.arr (.ints 3 .i64 r0_Slots), .int .i64 r0_Count], .bool r1])) := by kernel_rfl

theorem impl_UndoOne_fn : PM.FnIs Try.prog 22 Try.f22 := .of Try.func22 (by kernel_rfl) (by kernel_rfl)
theorem impl_UndoOne_g : PM.GOk Try.prog cx 22 ⟨[], impl_UndoOne_w (impl_UndoOne PM.std), none⟩ := by
  refine ⟨impl_UndoOne_fn.enter, fun _ ds k r h => ?_, fun hm => absurd rfl hm, fun _ e => (by cases e)⟩
  change impl_UndoOne_w (impl_UndoOne PM.std) ds k = some r at h
  unfold impl_UndoOne_w at h
  split at h
  · exact PM.pfun_ok (E := impl_UndoOne_E PM.std (impl_SlotPut PM.std) (impl_SlotDrop PM.std) (impl_copyShelf PM.std) (impl_ShelfOk PM.std) (impl_UndoOk PM.std)) (L := fun n => impl_UndoOne_L PM.std (impl_SlotPut PM.std) (impl_SlotDrop PM.std) (impl_copyShelf PM.std) (impl_ShelfOk PM.std) (impl_UndoOk PM.std) n) (N := PM.std.fuel) cx_ok (.cons impl_SlotPut_g (.cons impl_SlotDrop_g (.cons impl_copyShelf_g (.cons impl_ShelfOk_g (.cons impl_UndoOk_g .nil))))) mixed .nil impl_UndoOne_fn (by kernel_rfl) ⟨rfl, fun _ _ _ => rfl, fun n cur σ K r h => by cases h⟩
      ((impl_UndoOne_ok PM.std (impl_SlotPut PM.std) (impl_SlotDrop PM.std) (impl_copyShelf PM.std) (impl_ShelfOk PM.std) (impl_UndoOk PM.std) _ _ _ _ _ k).trans h)
  · cases h

abbrev laws_FnApart_T := (List Int) → ((Bool) → PM.R) → PM.R
noncomputable def laws_FnApart_w (c : laws_FnApart_T) (ds : List PM.V) (k : PM.V → PM.R) : PM.R :=
  match ds with
  | [.arr (.ints 5 .u8 __)] => c __ (fun r0 => k (.bool r0))
  | _ => none
noncomputable def laws_FnApart_f (A : PM.Prims) (c_6 : laws_big_T) (c_10 : laws_sameInts_T) (c_11 : impl_MapOf_T) (c_16 : spec_DrawBoostDo_T) (c_17 : laws_fresh_T) (c_18 : spec_ShelfOk_T) (c_19 : spec_Touches_T) (c_20 : impl_BoostMode_T) (c_21 : impl_BoostDo_T) (c_22 : impl_UndoOne_T) (__ : List Int) (k : (Bool) → PM.R) : PM.R :=
  c_6 __ (fun r1 =>
    bif r1 then
      k true
    else
      c_16 __ (fun r2 r3 r4 r5 r6 r7 r8 =>
        c_17 __ 7 (fun r9 =>
          c_16 r9 (fun r10 r11 r12 r13 r14 r15 r16 =>
            c_18 r2 r3 (fun r17 =>
              bif (A.not r17) then
                k true
              else
                bif (A.not (A.eq (A.ilen r8) 4)) then
                  k true
                else
                  c_19 r4 r5 r6 r7 (fun r18 =>
                    bif (A.not (A.eq r18 2)) then
                      k true
                    else
                      c_19 r12 r13 r14 r15 (fun r19 =>
                        bif (A.not (A.eq r19 2)) then
                          k true
                        else
                          c_20 r4 r5 r6 r7 (fun r20 r21 =>
                            c_20 r12 r13 r14 r15 (fun r22 r23 =>
                              bif (A.eq r20 r22) then
                                bif (A.eq r21 2) then
                                  bif (A.le 0 r20) then
                                    k (A.lt r20 9)
                                  else
                                    k false
                                else
                                  bif (A.eq r23 2) then
                                    bif (A.le 0 r20) then
                                      k (A.lt r20 9)
                                    else
                                      k false
                                  else
                                    c_21 r2 r3 r4 r5 r6 r7 r8 (fun r24 r25 r26 r27 r28 r29 r30 =>
                                      c_21 r24 r25 r12 r13 r14 r15 r8 (fun r31 r32 r33 r34 r35 r36 r37 =>
                                        c_21 r2 r3 r12 r13 r14 r15 r8 (fun r38 r39 r40 r41 r42 r43 r44 =>
                                          c_21 r38 r39 r4 r5 r6 r7 r8 (fun r45 r46 r47 r48 r49 r50 r51 =>
                                            c_22 r31 r32 r27 r28 r29 (fun r52 r53 r54 =>
                                              c_11 r31 (fun r55 =>
                                                bif (A.eq (A.ilen r55) 8) then
                                                  c_11 r31 (fun r56 =>
                                                    c_11 r45 (fun r57 =>
                                                      c_10 r56 r57 (fun r58 =>
                                                        bif r58 then
                                                          bif (A.eq r32 r46) then
                                                            c_10 r26 r47 (fun r59 =>
                                                              bif r59 then
                                                                c_10 r33 r40 (fun r60 =>
                                                                  bif r60 then
                                                                    c_11 r52 (fun r61 =>
                                                                      c_11 r38 (fun r62 =>
                                                                        c_10 r61 r62 (fun r63 =>
                                                                          bif r63 then
                                                                            k (A.eq r53 r39)
                                                                          else
                                                                            k false)))
                                                                  else
                                                                    k false)
                                                              else
                                                                k false)
                                                          else
                                                            k false
                                                        else
                                                          k false)))
                                                else
                                                  k false))))))
                              else
                                c_21 r2 r3 r4 r5 r6 r7 r8 (fun r64 r65 r66 r67 r68 r69 r70 =>
                                  c_21 r64 r65 r12 r13 r14 r15 r8 (fun r71 r72 r73 r74 r75 r76 r77 =>
                                    c_21 r2 r3 r12 r13 r14 r15 r8 (fun r78 r79 r80 r81 r82 r83 r84 =>
                                      c_21 r78 r79 r4 r5 r6 r7 r8 (fun r85 r86 r87 r88 r89 r90 r91 =>
                                        c_22 r71 r72 r67 r68 r69 (fun r92 r93 r94 =>
                                          c_11 r71 (fun r95 =>
                                            bif (A.eq (A.ilen r95) 8) then
                                              c_11 r71 (fun r96 =>
                                                c_11 r85 (fun r97 =>
                                                  c_10 r96 r97 (fun r98 =>
                                                    bif r98 then
                                                      bif (A.eq r72 r86) then
                                                        c_10 r66 r87 (fun r99 =>
                                                          bif r99 then
                                                            c_10 r73 r80 (fun r100 =>
                                                              bif r100 then
                                                                c_11 r92 (fun r101 =>
                                                                  c_11 r78 (fun r102 =>
                                                                    c_10 r101 r102 (fun r103 =>
                                                                      bif r103 then
                                                                        k (A.eq r93 r79)
                                                                      else
                                                                        k false)))
                                                              else
                                                                k false)
                                                          else
                                                            k false)
                                                      else
                                                        k false
                                                    else
                                                      k false)))
                                            else
                                              k false)))))))))))))))
noncomputable def laws_FnApart (A : PM.Prims) : laws_FnApart_T := laws_FnApart_f A (laws_big A) (laws_sameInts A) (impl_MapOf A) (spec_DrawBoostDo A) (laws_fresh A) (spec_ShelfOk A) (spec_Touches A) (impl_BoostMode A) (impl_BoostDo A) (impl_UndoOne A)
noncomputable def laws_FnApart_L (A : PM.Prims) (c_6 : laws_big_T) (c_10 : laws_sameInts_T) (c_11 : impl_MapOf_T) (c_16 : spec_DrawBoostDo_T) (c_17 : laws_fresh_T) (c_18 : spec_ShelfOk_T) (c_19 : spec_Touches_T) (c_20 : impl_BoostMode_T) (c_21 : impl_BoostDo_T) (c_22 : impl_UndoOne_T) (n : Nat) : PM.Lam := fun cur σ K =>
  match cur, σ, K with
  | _, _, _ => none
noncomputable def laws_FnApart_E (A : PM.Prims) (c_6 : laws_big_T) (c_10 : laws_sameInts_T) (c_11 : impl_MapOf_T) (c_16 : spec_DrawBoostDo_T) (c_17 : laws_fresh_T) (c_18 : spec_ShelfOk_T) (c_19 : spec_Touches_T) (c_20 : impl_BoostMode_T) (c_21 : impl_BoostDo_T) (c_22 : impl_UndoOne_T) : PM.Env := ⟨[(6, ⟨[], fun _ _ => none, some (PM.spImm (laws_big_w c_6))⟩), (10, ⟨[], fun _ _ => none, some (PM.spImm (laws_sameInts_w c_10))⟩), (11, ⟨[], fun _ _ => none, some (PM.spImm (impl_MapOf_w c_11))⟩), (16, ⟨[], fun _ _ => none, some (PM.spImm (spec_DrawBoostDo_w c_16))⟩), (17, ⟨[], fun _ _ => none, some (PM.spImm (laws_fresh_w c_17))⟩), (18, ⟨[], fun _ _ => none, some (PM.spImm (spec_ShelfOk_w c_18))⟩), (19, ⟨[], fun _ _ => none, some (PM.spImm (spec_Touches_w c_19))⟩), (20, ⟨[], fun _ _ => none, some (PM.spImm (impl_BoostMode_w c_20))⟩), (21, ⟨[], fun _ _ => none, some (PM.spImm (impl_BoostDo_w c_21))⟩), (22, ⟨[], fun _ _ => none, some (PM.spImm (impl_UndoOne_w c_22))⟩)], [], [], [(0, [0]), (1, [0, 32]), (2, [2]), (3, [0, 3, 4, 5]), (4, [3, 4, 5, 7]), (5, [3, 4, 5, 7, 63]), (6, [2]), (7, [3, 4, 5, 7, 9, 10]), (8, [3, 4, 5, 7, 9, 10, 11, 12]), (9, [3, 4, 5, 7, 9, 84]), (10, [2]), (11, [3, 4, 5, 7, 13, 14, 15]), (12, [3, 4, 5, 7, 14, 15, 17, 18]), (13, [4, 5, 14, 15, 17, 18, 21, 22]), (14, [14, 15, 17, 18, 21, 22, 25, 26]), (15, [14, 17, 18, 21, 22, 25, 26, 29]), (16, [2])], laws_FnApart_L A c_6 c_10 c_11 c_16 c_17 c_18 c_19 c_20 c_21 c_22 A.fuel⟩
theorem laws_FnApart_ok (A : PM.Prims) (c_6 : laws_big_T) (c_10 : laws_sameInts_T) (c_11 : impl_MapOf_T) (c_16 : spec_DrawBoostDo_T) (c_17 : laws_fresh_T) (c_18 : spec_ShelfOk_T) (c_19 : spec_Touches_T) (c_20 : impl_BoostMode_T) (c_21 : impl_BoostDo_T) (c_22 : impl_UndoOne_T) (__ : List Int) (k : PM.V → PM.R) : PM.lfun A cx [] (laws_FnApart_E A c_6 c_10 c_11 c_16 c_17 c_18 c_19 c_20 c_21 c_22) Go.Proofs.Try.f4 [.arr (.ints 5 .u8 __)] k = laws_FnApart_f A c_6 c_10 c_11 c_16 c_17 c_18 c_19 c_20 c_21 c_22 __ (fun r0 => k (.bool r0)) := by kernel_rfl

theorem laws_FnApart_fn : PM.FnIs Try.prog 4 Try.f4 := .of Try.func4 (by kernel_rfl) (by kernel_rfl)
theorem laws_FnApart_g : PM.GOk Try.prog cx 4 ⟨[], laws_FnApart_w (laws_FnApart PM.std), none⟩ := by
  refine ⟨laws_FnApart_fn.enter, fun _ ds k r h => ?_, fun hm => absurd rfl hm, fun _ e => (by cases e)⟩
  change laws_FnApart_w (laws_FnApart PM.std) ds k = some r at h
  unfold laws_FnApart_w at h
  split at h
  · exact PM.lfun_ok (E := laws_FnApart_E PM.std (laws_big PM.std) (laws_sameInts PM.std) (impl_MapOf PM.std) (spec_DrawBoostDo PM.std) (laws_fresh PM.std) (spec_ShelfOk PM.std) (spec_Touches PM.std) (impl_BoostMode PM.std) (impl_BoostDo PM.std) (impl_UndoOne PM.std)) (M := []) .nil cx_ok (.cons (PM.GOk.imm laws_big_g) (.cons (PM.GOk.imm laws_sameInts_g) (.cons (PM.GOk.imm impl_MapOf_g) (.cons (PM.GOk.imm spec_DrawBoostDo_g) (.cons (PM.GOk.imm laws_fresh_g) (.cons (PM.GOk.imm spec_ShelfOk_g) (.cons (PM.GOk.imm spec_Touches_g) (.cons (PM.GOk.imm impl_BoostMode_g) (.cons (PM.GOk.imm impl_BoostDo_g) (.cons (PM.GOk.imm impl_UndoOne_g) .nil)))))))))) mixed .nil laws_FnApart_fn (by kernel_rfl)
      ((laws_FnApart_ok PM.std (laws_big PM.std) (laws_sameInts PM.std) (impl_MapOf PM.std) (spec_DrawBoostDo PM.std) (laws_fresh PM.std) (spec_ShelfOk PM.std) (spec_Touches PM.std) (impl_BoostMode PM.std) (impl_BoostDo PM.std) (impl_UndoOne PM.std) _ k).trans h)
  · cases h

abbrev spec_l16Copy_T := (List Int) → (Int) → ((List Int) → (Int) → PM.R) → PM.R
noncomputable def spec_l16Copy_w (c : spec_l16Copy_T) (ds : List PM.V) (k : PM.V → PM.R) : PM.R :=
  match ds with
  | [.agg [.arr (.ints 3 .i64 s_Slots), .int .i64 s_Count]] => c s_Slots s_Count (fun r0_Slots r0_Count => k (.agg [.arr (.ints 3 .i64 r0_Slots), .int .i64 r0_Count]))
  | _ => none
noncomputable def spec_l16Copy_f (A : PM.Prims) (c_56 : spec_l15Ints_T) (s_Slots : List Int) (s_Count : Int) (k : (List Int) → (Int) → PM.R) : PM.R :=
  c_56 s_Slots (fun r1 =>
    k r1 s_Count)
noncomputable def spec_l16Copy (A : PM.Prims) : spec_l16Copy_T := spec_l16Copy_f A (spec_l15Ints A)
noncomputable def spec_l16Copy_L (A : PM.Prims) (c_56 : spec_l15Ints_T) (n : Nat) : PM.Lam := fun cur σ K =>
  match cur, σ, K with
  | _, _, _ => none
noncomputable def spec_l16Copy_E (A : PM.Prims) (c_56 : spec_l15Ints_T) : PM.Env := ⟨[(56, ⟨[], spec_l15Ints_w c_56, none⟩)], [], [], [(0, [1, 2]), (1, [2])], spec_l16Copy_L A c_56 A.fuel⟩
theorem spec_l16Copy_ok (A : PM.Prims) (c_56 : spec_l15Ints_T) (s_Slots : List Int) (s_Count : Int) (k : PM.V → PM.R) : PM.pfun A cx [] (spec_l16Copy_E A c_56) Go.Proofs.Try.f55 [.agg [.arr (.ints 3 .i64 s_Slots), .int .i64 s_Count]] k = spec_l16Copy_f A c_56 s_Slots s_Count (fun r0_Slots r0_Count => k (.agg [.arr (.ints 3 .i64 r0_Slots), .int .i64 r0_Count])) := by kernel_rfl

theorem spec_l16Copy_fn : PM.FnIs Try.prog 55 Try.f55 := .of Try.func55 (by kernel_rfl) (by kernel_rfl)
theorem spec_l16Copy_g : PM.GOk Try.prog cx 55 ⟨[], spec_l16Copy_w (spec_l16Copy PM.std), none⟩ := by
  refine ⟨spec_l16Copy_fn.enter, fun _ ds k r h => ?_, fun hm => absurd rfl hm, fun _ e => (by cases e)⟩
  change spec_l16Copy_w (spec_l16Copy PM.std) ds k = some r at h
  unfold spec_l16Copy_w at h
  split at h
  · exact PM.pfun_ok (E := spec_l16Copy_E PM.std (spec_l15Ints PM.std)) (L := fun n => spec_l16Copy_L PM.std (spec_l15Ints PM.std) n) (N := PM.std.fuel) cx_ok (.cons spec_l15Ints_g .nil) mixed .nil spec_l16Copy_fn (by kernel_rfl) ⟨rfl, fun _ _ _ => rfl, fun n cur σ K r h => by cases h⟩
      ((spec_l16Copy_ok PM.std (spec_l15Ints PM.std) _ _ k).trans h)
  · cases h

abbrev spec_l4Regs_T := (List Int) → ((Bool) → PM.R) → PM.R
noncomputable def spec_l4Regs_w (c : spec_l4Regs_T) (ds : List PM.V) (k : PM.V → PM.R) : PM.R :=
  match ds with
  | [.arr (.ints 3 .i64 l)] => c l (fun r0 => k (.bool r0))
  | _ => none
noncomputable def spec_l4Regs_l0 (A : PM.Prims) (c_47 : spec_l3Val_T) : Nat → (List Int) → (Int) → ((Bool) → PM.R) → (Unit → PM.R) → PM.R
  | 0, _, _, _, _ => none
  | n + 1, l1, i2, kret_0, kx0_0 =>
    bif (A.lt i2 (A.ilen l1)) then
      bif (A.inb i2 (A.ilen l1)) then
        c_47 (A.iget l1 i2) (fun r3 =>
          bif (A.not r3) then
            kret_0 false
          else
            spec_l4Regs_l0 A c_47 n l1 (A.add .i64 i2 1) kret_0 kx0_0)
      else
        none
    else
      kx0_0 ()
noncomputable def spec_l4Regs_f (A : PM.Prims) (c_47 : spec_l3Val_T) (l : List Int) (k : (Bool) → PM.R) : PM.R :=
  bif (A.not (A.eq (A.ilen l) 4)) then
    k false
  else
    spec_l4Regs_l0 A c_47 A.fuel l 0 (fun t245 =>
      k t245) (fun _ =>
      k true)
noncomputable def spec_l4Regs (A : PM.Prims) : spec_l4Regs_T := spec_l4Regs_f A (spec_l3Val A)
noncomputable def spec_l4Regs_L (A : PM.Prims) (c_47 : spec_l3Val_T) (n : Nat) : PM.Lam := fun cur σ K =>
  match cur, σ, K with
  | 0, ⟨[(0, .arr (.ints 3 .i64 l1)), (3, .int .i64 i2)], []⟩, K => spec_l4Regs_l0 A c_47 n l1 i2 (fun t24 => K .ret ⟨[(2, .bool t24)], []⟩) (fun _ => K (.exit 0) ⟨[], []⟩)
  | _, _, _ => none
noncomputable def spec_l4Regs_E (A : PM.Prims) (c_47 : spec_l3Val_T) : PM.Env := ⟨[(47, ⟨[], spec_l3Val_w c_47, none⟩)], [], [(0, [0, 3], [2])], [(0, [0]), (1, [0, 6]), (2, [2]), (3, [0, 3]), (4, [0, 3, 10]), (5, [0, 3]), (6, [0, 3, 18]), (7, [2]), (8, [2])], spec_l4Regs_L A c_47 A.fuel⟩
theorem spec_l4Regs_l0_ok (A : PM.Prims) (c_47 : spec_l3Val_T) (n : Nat) (l1 : List Int) (i2 : Int) (K : Go.Exit → PM.S → PM.R) : spec_l4Regs_L A c_47 (n + 1) 0 ⟨[(0, .arr (.ints 3 .i64 l1)), (3, .int .i64 i2)], []⟩ K = PM.roundF A cx (PM.runD A cx (spec_l4Regs_E A c_47).inl (spec_l4Regs_E A c_47).Γ 3) (spec_l4Regs_E A c_47) (spec_l4Regs_L A c_47 n) 0 Go.Proofs.Try.f57 ⟨[(0, .arr (.ints 3 .i64 l1)), (3, .int .i64 i2)], []⟩ K := by kernel_rfl
theorem spec_l4Regs_ok (A : PM.Prims) (c_47 : spec_l3Val_T) (l : List Int) (k : PM.V → PM.R) : PM.pfun A cx [] (spec_l4Regs_E A c_47) Go.Proofs.Try.f57 [.arr (.ints 3 .i64 l)] k = spec_l4Regs_f A c_47 l (fun r0 => k (.bool r0)) := by kernel_rfl

theorem spec_l4Regs_fn : PM.FnIs Try.prog 57 Try.f57 := .of Try.func57 (by kernel_rfl) (by kernel_rfl)
theorem spec_l4Regs_g : PM.GOk Try.prog cx 57 ⟨[], spec_l4Regs_w (spec_l4Regs PM.std), none⟩ := by
  refine ⟨spec_l4Regs_fn.enter, fun _ ds k r h => ?_, fun hm => absurd rfl hm, fun _ e => (by cases e)⟩
  change spec_l4Regs_w (spec_l4Regs PM.std) ds k = some r at h
  unfold spec_l4Regs_w at h
  split at h
  · exact PM.pfun_ok (E := spec_l4Regs_E PM.std (spec_l3Val PM.std)) (L := fun n => spec_l4Regs_L PM.std (spec_l3Val PM.std) n) (N := PM.std.fuel) cx_ok (.cons spec_l3Val_g .nil) mixed .nil spec_l4Regs_fn (by kernel_rfl) ⟨rfl, fun cur σ K => by
      dsimp only [spec_l4Regs_L]
      split <;> rfl, fun n cur σ K r h => by
      dsimp only [spec_l4Regs_L] at h
      split at h
      · exact (spec_l4Regs_l0_ok PM.std (spec_l3Val PM.std) n _ _ K).symm.trans h
      · cases h⟩
      ((spec_l4Regs_ok PM.std (spec_l3Val PM.std) _ k).trans h)
  · cases h

abbrev spec_l16Back_T := (Int) → (Int) → ((Int) → (Int) → (Int) → PM.R) → PM.R
noncomputable def spec_l16Back_w (c : spec_l16Back_T) (ds : List PM.V) (k : PM.V → PM.R) : PM.R :=
  match ds with
  | [.int .i64 key, .int .i64 old] => c key old (fun r0_Kind r0_Key r0_Val => k (.agg [.int .i64 r0_Kind, .int .i64 r0_Key, .int .i64 r0_Val]))
  | _ => none
noncomputable def spec_l16Back_f (A : PM.Prims) (key : Int) (old : Int) (k : (Int) → (Int) → (Int) → PM.R) : PM.R :=
  bif (A.eq old 0) then
    k 2 key 0
  else
    k 1 key (A.sub .i64 old 1)
noncomputable def spec_l16Back (A : PM.Prims) : spec_l16Back_T := spec_l16Back_f A
noncomputable def spec_l16Back_L (A : PM.Prims) (n : Nat) : PM.Lam := fun cur σ K =>
  match cur, σ, K with
  | _, _, _ => none
noncomputable def spec_l16Back_E (A : PM.Prims) : PM.Env := ⟨[], [], [], [(0, [0, 1, 4]), (1, [0, 1, 4, 6]), (2, [4]), (3, [4])], spec_l16Back_L A A.fuel⟩
theorem spec_l16Back_ok (A : PM.Prims) (key : Int) (old : Int) (k : PM.V → PM.R) : PM.pfun A cx [] (spec_l16Back_E A) Go.Proofs.Try.f59 [.int .i64 key, .int .i64 old] k = spec_l16Back_f A key old (fun r0_Kind r0_Key r0_Val => k (.agg [.int .i64 r0_Kind, .int .i64 r0_Key, .int .i64 r0_Val])) := by kernel_rfl

theorem spec_l16Back_fn : PM.FnIs Try.prog 59 Try.f59 := .of Try.func59 (by kernel_rfl) (by kernel_rfl)
theorem spec_l16Back_g : PM.GOk Try.prog cx 59 ⟨[], spec_l16Back_w (spec_l16Back PM.std), none⟩ := by
  refine ⟨spec_l16Back_fn.enter, fun _ ds k r h => ?_, fun hm => absurd rfl hm, fun _ e => (by cases e)⟩
  change spec_l16Back_w (spec_l16Back PM.std) ds k = some r at h
  unfold spec_l16Back_w at h
  split at h
  · exact PM.pfun_ok (E := spec_l16Back_E PM.std) (L := fun n => spec_l16Back_L PM.std n) (N := PM.std.fuel) cx_ok .nil mixed .nil spec_l16Back_fn (by kernel_rfl) ⟨rfl, fun _ _ _ => rfl, fun n cur σ K r h => by cases h⟩
      ((spec_l16Back_ok PM.std _ _ k).trans h)
  · cases h

abbrev spec_SlotGet_T := (List Int) → (Int) → ((Int) → (Bool) → PM.R) → PM.R
noncomputable def spec_SlotGet_w (c : spec_SlotGet_T) (ds : List PM.V) (k : PM.V → PM.R) : PM.R :=
  match ds with
  | [.arr (.ints 3 .i64 l), .int .i64 key] => c l key (fun r0 r1 => k (.tup [.int .i64 r0, .bool r1]))
  | _ => none
noncomputable def spec_SlotGet_f (A : PM.Prims) (c_37 : spec_l15Slot_T) (c_65 : spec_l15Key_T) (c_9 : spec_SlotsOk_T) (c_74 : spec_l15At_T) (l : List Int) (key : Int) (k : (Int) → (Bool) → PM.R) : PM.R :=
  c_9 l (fun r1 =>
    bif (A.not r1) then
      k 0 false
    else
      c_65 key (fun r2 =>
        bif (A.not r2) then
          k 0 false
        else
          c_74 l key (fun r3 =>
            bif (A.lt r3 0) then
              k 0 false
            else
              c_74 l key (fun r4 =>
                bif (A.inb r4 (A.ilen l)) then
                  c_37 (A.iget l r4) (fun r5 r6 =>
                    k r6 true)
                else
                  none))))
noncomputable def spec_SlotGet (A : PM.Prims) : spec_SlotGet_T := spec_SlotGet_f A (spec_l15Slot A) (spec_l15Key A) (spec_SlotsOk A) (spec_l15At A)
noncomputable def spec_SlotGet_L (A : PM.Prims) (c_37 : spec_l15Slot_T) (c_65 : spec_l15Key_T) (c_9 : spec_SlotsOk_T) (c_74 : spec_l15At_T) (n : Nat) : PM.Lam := fun cur σ K =>
  match cur, σ, K with
  | _, _, _ => none
noncomputable def spec_SlotGet_E (A : PM.Prims) (c_37 : spec_l15Slot_T) (c_65 : spec_l15Key_T) (c_9 : spec_SlotsOk_T) (c_74 : spec_l15At_T) : PM.Env := ⟨[(37, ⟨[], spec_l15Slot_w c_37, none⟩), (65, ⟨[], spec_l15Key_w c_65, none⟩), (9, ⟨[], spec_SlotsOk_w c_9, none⟩), (74, ⟨[], spec_l15At_w c_74, none⟩)], [], [], [(0, [0, 1]), (1, [0, 1, 21]), (2, [4, 5]), (3, [7]), (4, [4, 5])], spec_SlotGet_L A c_37 c_65 c_9 c_74 A.fuel⟩
theorem spec_SlotGet_ok (A : PM.Prims) (c_37 : spec_l15Slot_T) (c_65 : spec_l15Key_T) (c_9 : spec_SlotsOk_T) (c_74 : spec_l15At_T) (l : List Int) (key : Int) (k : PM.V → PM.R) : PM.pfun A cx [] (spec_SlotGet_E A c_37 c_65 c_9 c_74) Go.Proofs.Try.f61 [.arr (.ints 3 .i64 l), .int .i64 key] k = spec_SlotGet_f A c_37 c_65 c_9 c_74 l key (fun r0 r1 => k (.tup [.int .i64 r0, .bool r1])) := by kernel_rfl

theorem spec_SlotGet_fn : PM.FnIs Try.prog 61 Try.f61 := .of Try.func61 (by kernel_rfl) (by kernel_rfl)
theorem spec_SlotGet_g : PM.GOk Try.prog cx 61 ⟨[], spec_SlotGet_w (spec_SlotGet PM.std), none⟩ := by
  refine ⟨spec_SlotGet_fn.enter, fun _ ds k r h => ?_, fun hm => absurd rfl hm, fun _ e => (by cases e)⟩
  change spec_SlotGet_w (spec_SlotGet PM.std) ds k = some r at h
  unfold spec_SlotGet_w at h
  split at h
  · exact PM.pfun_ok (E := spec_SlotGet_E PM.std (spec_l15Slot PM.std) (spec_l15Key PM.std) (spec_SlotsOk PM.std) (spec_l15At PM.std)) (L := fun n => spec_SlotGet_L PM.std (spec_l15Slot PM.std) (spec_l15Key PM.std) (spec_SlotsOk PM.std) (spec_l15At PM.std) n) (N := PM.std.fuel) cx_ok (.cons spec_l15Slot_g (.cons spec_l15Key_g (.cons spec_SlotsOk_g (.cons spec_l15At_g .nil)))) mixed .nil spec_SlotGet_fn (by kernel_rfl) ⟨rfl, fun _ _ _ => rfl, fun n cur σ K r h => by cases h⟩
      ((spec_SlotGet_ok PM.std (spec_l15Slot PM.std) (spec_l15Key PM.std) (spec_SlotsOk PM.std) (spec_l15At PM.std) _ _ k).trans h)
  · cases h

abbrev spec_BoostDo_T := (List Int) → (Int) → (Int) → (Int) → (Int) → (Int) → (List Int) → ((List Int) → (Int) → (List Int) → (Int) → (Int) → (Int) → (Bool) → PM.R) → PM.R
noncomputable def spec_BoostDo_w (c : spec_BoostDo_T) (ds : List PM.V) (k : PM.V → PM.R) : PM.R :=
  match ds with
  | [.agg [.arr (.ints 3 .i64 ___Slots), .int .i64 ___Count], .agg [.int .i64 a_Kind, .int .i64 a_A, .int .i64 a_B, .int .i64 a_C], .arr (.ints 3 .i64 r)] => c ___Slots ___Count a_Kind a_A a_B a_C r (fun r0_Slots r0_Count r1 r2_Kind r2_Key r2_Val r3 => k (.tup [.agg [.arr (.ints 3 .i64 r0_Slots), .int .i64 r0_Count], .arr (.ints 3 .i64 r1), .agg [.int .i64 r2_Kind, .int .i64 r2_Key, .int .i64 r2_Val], .bool r3]))
  | _ => none
noncomputable def spec_BoostDo_f (A : PM.Prims) (c_56 : spec_l15Ints_T) (c_60 : spec_SlotDrop_T) (c_58 : spec_SlotPut_T) (c_18 : spec_ShelfOk_T) (c_19 : spec_Touches_T) (c_55 : spec_l16Copy_T) (c_57 : spec_l4Regs_T) (c_59 : spec_l16Back_T) (c_61 : spec_SlotGet_T) (___Slots : List Int) (___Count : Int) (a_Kind : Int) (a_A : Int) (a_B : Int) (a_C : Int) (r : List Int) (k : (List Int) → (Int) → (List Int) → (Int) → (Int) → (Int) → (Bool) → PM.R) : PM.R :=
  c_55 ___Slots ___Count (fun r1 r2 =>
    c_56 r (fun r3 =>
      c_18 ___Slots ___Count (fun r4 =>
        bif (A.not r4) then
          k r1 r2 r3 0 0 0 false
        else
          c_57 r (fun r5 =>
            bif (A.not r5) then
              k r1 r2 r3 0 0 0 false
            else
              c_19 a_Kind a_A a_B a_C (fun r6 =>
                bif (A.not (A.eq r6 2)) then
                  k r1 r2 r3 0 0 0 false
                else
                  bif (A.eq a_Kind 12) then
                    bif (A.inb a_B (A.ilen r)) then
                      c_58 ___Slots a_A (A.iget r a_B) (fun r7 r8 r9 =>
                        bif (A.nz 65536) then
                          bif (A.inb a_C (A.ilen r3)) then
                            c_59 a_A r8 (fun r10 r11 r12 =>
                              k r7 r2 (A.iset r3 a_C (A.rem .i64 r8 65536)) r10 r11 r12 true)
                          else
                            none
                        else
                          none)
                    else
                      none
                  else
                    bif (A.eq a_Kind 14) then
                      c_60 ___Slots a_A (fun r13 r14 r15 =>
                        bif (A.nz 65536) then
                          bif (A.inb a_B (A.ilen r3)) then
                            c_59 a_A r14 (fun r16 r17 r18 =>
                              k r13 r2 (A.iset r3 a_B (A.rem .i64 r14 65536)) r16 r17 r18 true)
                          else
                            none
                        else
                          none)
                    else
                      bif (A.eq a_Kind 13) then
                        c_61 ___Slots a_B (fun r19 r20 =>
                          bif (A.inb a_A (A.ilen r3)) then
                            bif r20 then
                              bif (A.nz 65536) then
                                bif (A.inb a_A (A.ilen (A.iset r3 a_A 0))) then
                                  k r1 r2 (A.iset (A.iset r3 a_A 0) a_A (A.rem .i64 (A.add .i64 r19 1) 65536)) 0 0 0 true
                                else
                                  none
                              else
                                none
                            else
                              k r1 r2 (A.iset r3 a_A 0) 0 0 0 true
                          else
                            none)
                      else
                        bif (A.eq a_Kind 15) then
                          bif (A.inb a_A (A.ilen r)) then
                            bif (A.nz 65536) then
                              bif (A.inb a_A (A.ilen r)) then
                                k r1 (A.rem .i64 (A.add .i64 ___Count (A.iget r a_A)) 65536) r3 3 0 (A.iget r a_A) true
                              else
                                none
                            else
                              none
                          else
                            none
                        else
                          bif (A.inb a_A (A.ilen r3)) then
                            k r1 r2 (A.iset r3 a_A ___Count) 0 0 0 true
                          else
                            none)))))
noncomputable def spec_BoostDo (A : PM.Prims) : spec_BoostDo_T := spec_BoostDo_f A (spec_l15Ints A) (spec_SlotDrop A) (spec_SlotPut A) (spec_ShelfOk A) (spec_Touches A) (spec_l16Copy A) (spec_l4Regs A) (spec_l16Back A) (spec_SlotGet A)
noncomputable def spec_BoostDo_L (A : PM.Prims) (c_56 : spec_l15Ints_T) (c_60 : spec_SlotDrop_T) (c_58 : spec_SlotPut_T) (c_18 : spec_ShelfOk_T) (c_19 : spec_Touches_T) (c_55 : spec_l16Copy_T) (c_57 : spec_l4Regs_T) (c_59 : spec_l16Back_T) (c_61 : spec_SlotGet_T) (n : Nat) : PM.Lam := fun cur σ K =>
  match cur, σ, K with
  | _, _, _ => none
noncomputable def spec_BoostDo_E (A : PM.Prims) (c_56 : spec_l15Ints_T) (c_60 : spec_SlotDrop_T) (c_58 : spec_SlotPut_T) (c_18 : spec_ShelfOk_T) (c_19 : spec_Touches_T) (c_55 : spec_l16Copy_T) (c_57 : spec_l4Regs_T) (c_59 : spec_l16Back_T) (c_61 : spec_SlotGet_T) : PM.Env := ⟨[(56, ⟨[], spec_l15Ints_w c_56, none⟩), (60, ⟨[], spec_SlotDrop_w c_60, none⟩), (58, ⟨[], spec_SlotPut_w c_58, none⟩), (18, ⟨[], spec_ShelfOk_w c_18, none⟩), (19, ⟨[], spec_Touches_w c_19, none⟩), (55, ⟨[], spec_l16Copy_w c_55, none⟩), (57, ⟨[], spec_l4Regs_w c_57, none⟩), (59, ⟨[], spec_l16Back_w c_59, none⟩), (61, ⟨[], spec_SlotGet_w c_61, none⟩)], [], [], [(0, [2, 3, 4, 6, 8]), (1, [2, 3, 4, 6, 8, 10]), (2, [2, 3, 4, 6, 8, 10, 11]), (3, [2, 3, 4, 6, 8, 10, 11, 12]), (4, [2, 3, 4, 6, 8, 10, 11, 12, 38]), (5, [6, 7, 8, 9]), (6, [2, 3, 4, 6, 8, 10, 11, 12, 43]), (7, [6, 8, 10, 11, 12]), (8, [2, 3, 4, 6, 8, 10, 11, 12, 43, 50]), (9, [4, 6, 8, 10, 11, 12, 13, 14]), (10, [4, 6, 8, 10, 11, 12, 14]), (11, [4, 6, 8, 10, 11, 12, 14]), (12, [6, 8, 10, 11, 12]), (13, [2, 3, 4, 6, 8, 10, 11, 12, 43, 78]), (14, [4, 6, 8, 10, 11, 12, 16, 17]), (15, [4, 6, 8, 10, 11, 12, 17]), (16, [4, 6, 8, 10, 11, 12, 17]), (17, [6, 8, 10, 11, 12]), (18, [2, 3, 4, 6, 8, 10, 11, 12, 43, 101]), (19, [4, 6, 8, 10, 11, 12, 19, 20]), (20, [4, 6, 8, 10, 11, 12, 19, 20]), (21, [4, 6, 8, 10, 11, 12, 19, 115]), (22, [6, 8, 10, 11, 12]), (23, [2, 3, 4, 6, 8, 10, 11, 12, 123]), (24, [2, 4, 6, 8, 10, 11, 12]), (25, [6, 8, 10, 11, 12]), (26, [6, 7, 8, 9])], spec_BoostDo_L A c_56 c_60 c_58 c_18 c_19 c_55 c_57 c_59 c_61 A.fuel⟩
theorem spec_BoostDo_ok (A : PM.Prims) (c_56 : spec_l15Ints_T) (c_60 : spec_SlotDrop_T) (c_58 : spec_SlotPut_T) (c_18 : spec_ShelfOk_T) (c_19 : spec_Touches_T) (c_55 : spec_l16Copy_T) (c_57 : spec_l4Regs_T) (c_59 : spec_l16Back_T) (c_61 : spec_SlotGet_T) (___Slots : List Int) (___Count : Int) (a_Kind : Int) (a_A : Int) (a_B : Int) (a_C : Int) (r : List Int) (k : PM.V → PM.R) : PM.pfun A cx [] (spec_BoostDo_E A c_56 c_60 c_58 c_18 c_19 c_55 c_57 c_59 c_61) Go.Proofs.Try.f23 [.agg [.arr (.ints 3 .i64 ___Slots), .int .i64 ___Count], .agg [.int .i64 a_Kind, .int .i64 a_A, .int .i64 a_B, .int .i64 a_C], .arr (.ints 3 .i64 r)] k = spec_BoostDo_f A c_56 c_60 c_58 c_18 c_19 c_55 c_57 c_59 c_61 ___Slots ___Count a_Kind a_A a_B a_C r (fun r0_Slots r0_Count r1 r2_Kind r2_Key r2_Val r3 => k (.tup [.agg [.arr (.ints 3 .i64 r0_Slots), .int .i64 r0_Count], .arr (.ints 3 .i64 r1), .agg [.int .i64 r2_Kind, .int .i64 r2_Key, .int .i64 r2_Val], .bool r3])) := by kernel_rfl

theorem spec_BoostDo_fn : PM.FnIs Try.prog 23 Try.f23 := .of Try.func23 (by kernel_rfl) (by kernel_rfl)
theorem spec_BoostDo_g : PM.GOk Try.prog cx 23 ⟨[], spec_BoostDo_w (spec_BoostDo PM.std), none⟩ := by
  refine ⟨spec_BoostDo_fn.enter, fun _ ds k r h => ?_, fun hm => absurd rfl hm, fun _ e => (by cases e)⟩
  change spec_BoostDo_w (spec_BoostDo PM.std) ds k = some r at h
  unfold spec_BoostDo_w at h
  split at h
  · exact PM.pfun_ok (E := spec_BoostDo_E PM.std (spec_l15Ints PM.std) (spec_SlotDrop PM.std) (spec_SlotPut PM.std) (spec_ShelfOk PM.std) (spec_Touches PM.std) (spec_l16Copy PM.std) (spec_l4Regs PM.std) (spec_l16Back PM.std) (spec_SlotGet PM.std)) (L := fun n => spec_BoostDo_L PM.std (spec_l15Ints PM.std) (spec_SlotDrop PM.std) (spec_SlotPut PM.std) (spec_ShelfOk PM.std) (spec_Touches PM.std) (spec_l16Copy PM.std) (spec_l4Regs PM.std) (spec_l16Back PM.std) (spec_SlotGet PM.std) n) (N := PM.std.fuel) cx_ok (.cons spec_l15Ints_g (.cons spec_SlotDrop_g (.cons spec_SlotPut_g (.cons spec_ShelfOk_g (.cons spec_Touches_g (.cons spec_l16Copy_g (.cons spec_l4Regs_g (.cons spec_l16Back_g (.cons spec_SlotGet_g .nil))))))))) mixed .nil spec_BoostDo_fn (by kernel_rfl) ⟨rfl, fun _ _ _ => rfl, fun n cur σ K r h => by cases h⟩
      ((spec_BoostDo_ok PM.std (spec_l15Ints PM.std) (spec_SlotDrop PM.std) (spec_SlotPut PM.std) (spec_ShelfOk PM.std) (spec_Touches PM.std) (spec_l16Copy PM.std) (spec_l4Regs PM.std) (spec_l16Back PM.std) (spec_SlotGet PM.std) _ _ _ _ _ _ _ k).trans h)
  · cases h

abbrev impl_UndoAll_T := (List Int) → (Int) → (List (List Int)) → ((List Int) → (Int) → PM.R) → PM.R
noncomputable def impl_UndoAll_w (c : impl_UndoAll_T) (ds : List PM.V) (k : PM.V → PM.R) : PM.R :=
  match ds with
  | [.agg [.arr (.ints 3 .i64 s_Slots), .int .i64 s_Count], .arr (.vecs 48 3 l)] => c s_Slots s_Count l (fun r0_Slots r0_Count => k (.agg [.arr (.ints 3 .i64 r0_Slots), .int .i64 r0_Count]))
  | _ => none
noncomputable def impl_UndoAll_l0 (A : PM.Prims) (c_50 : impl_copyShelf_T) (c_22 : impl_UndoOne_T) : Nat → (List (List Int)) → (Int) → (Int) → (Int) → (List Int) → (List Int) → ((Int) → (Int) → (List Int) → (List Int) → PM.R) → PM.R
  | 0, _, _, _, _, _, _, _ => none
  | n + 1, l3, i4, o05, o16, o27, o38, kx0_0 =>
    bif (A.le 0 i4) then
      bif (A.inb i4 (A.vlen l3)) then
        c_22 o27 o05 (A.vget l3 i4 0) (A.vget l3 i4 1) (A.vget l3 i4 2) (fun r9 r10 r11 =>
          impl_UndoAll_l0 A c_50 c_22 n l3 (A.sub .i64 i4 1) r10 o16 r9 o38 kx0_0)
      else
        none
    else
      kx0_0 o05 o16 o27 o38
noncomputable def impl_UndoAll_f (A : PM.Prims) (c_50 : impl_copyShelf_T) (c_22 : impl_UndoOne_T) (s_Slots : List Int) (s_Count : Int) (l : List (List Int)) (k : (List Int) → (Int) → PM.R) : PM.R :=
  c_50 s_Slots s_Count (fun r1 r2 =>
    impl_UndoAll_l0 A c_50 c_22 A.fuel l (A.sub .i64 (A.vlen l) 1) r2 0 r1 [] (fun o01216 o11317 o21418 o31519 =>
      k o21418 o01216))
noncomputable def impl_UndoAll (A : PM.Prims) : impl_UndoAll_T := impl_UndoAll_f A (impl_copyShelf A) (impl_UndoOne A)
noncomputable def impl_UndoAll_L (A : PM.Prims) (c_50 : impl_copyShelf_T) (c_22 : impl_UndoOne_T) (n : Nat) : PM.Lam := fun cur σ K =>
  match cur, σ, K with
  | 0, ⟨[(1, .arr (.vecs 48 3 l3)), (2, .pbox 0 0), (4, .pbox 1 0), (5, .int .i64 i4)], [(0, .box [.sref 2, .int .i64 o05]), (1, .box [.sref 3, .int .i64 o16]), (2, .arr true (.ints 3 .i64 o27)), (3, .arr true (.ints 3 .i64 o38))]⟩, K => impl_UndoAll_l0 A c_50 c_22 n l3 i4 o05 o16 o27 o38 (fun o012 o113 o214 o315 => K (.exit 0) ⟨[(2, .pbox 0 0), (4, .pbox 1 0)], [(0, .box [.sref 2, .int .i64 o012]), (1, .box [.sref 3, .int .i64 o113]), (2, .arr true (.ints 3 .i64 o214)), (3, .arr true (.ints 3 .i64 o315))]⟩)
  | _, _, _ => none
noncomputable def impl_UndoAll_E (A : PM.Prims) (c_50 : impl_copyShelf_T) (c_22 : impl_UndoOne_T) : PM.Env := ⟨[(50, ⟨[], impl_copyShelf_w c_50, none⟩), (22, ⟨[], impl_UndoOne_w c_22, none⟩)], [], [(0, [1, 2, 4, 5], [2, 4])], [(0, [1, 2, 4]), (1, [1, 2, 4]), (2, [1, 2, 4, 5]), (3, [1, 2, 4, 5, 12]), (4, [1, 2, 4, 5]), (5, [1, 2, 4, 5]), (6, [4])], impl_UndoAll_L A c_50 c_22 A.fuel⟩
theorem impl_UndoAll_l0_ok (A : PM.Prims) (c_50 : impl_copyShelf_T) (c_22 : impl_UndoOne_T) (n : Nat) (l3 : List (List Int)) (i4 : Int) (o05 : Int) (o16 : Int) (o27 : List Int) (o38 : List Int) (K : Go.Exit → PM.S → PM.R) : impl_UndoAll_L A c_50 c_22 (n + 1) 0 ⟨[(1, .arr (.vecs 48 3 l3)), (2, .pbox 0 0), (4, .pbox 1 0), (5, .int .i64 i4)], [(0, .box [.sref 2, .int .i64 o05]), (1, .box [.sref 3, .int .i64 o16]), (2, .arr true (.ints 3 .i64 o27)), (3, .arr true (.ints 3 .i64 o38))]⟩ K = PM.roundF A cx (PM.runD A cx (impl_UndoAll_E A c_50 c_22).inl (impl_UndoAll_E A c_50 c_22).Γ 3) (impl_UndoAll_E A c_50 c_22) (impl_UndoAll_L A c_50 c_22 n) 0 Go.Proofs.Try.f24 ⟨[(1, .arr (.vecs 48 3 l3)), (2, .pbox 0 0), (4, .pbox 1 0), (5, .int .i64 i4)], [(0, .box [.sref 2, .int .i64 o05]), (1, .box [.sref 3, .int .i64 o16]), (2, .arr true (.ints 3 .i64 o27)), (3, .arr true (.ints 3 .i64 o38))]⟩ K := by kernel_rfl
theorem impl_UndoAll_ok (A : PM.Prims) (c_50 : impl_copyShelf_T) (c_22 : impl_UndoOne_T) (s_Slots : List Int) (s_Count : Int) (l : List (List Int)) (k : PM.V → PM.R) : PM.pfun A cx [] (impl_UndoAll_E A c_50 c_22) Go.Proofs.Try.f24 [.agg [.arr (.ints 3 .i64 s_Slots), .int .i64 s_Count], .arr (.vecs 48 3 l)] k = impl_UndoAll_f A c_50 c_22 s_Slots s_Count l (fun r0_Slots r0_Count => k (.agg [.arr (.ints 3 .i64 r0_Slots), .int .i64 r0_Count])) := by kernel_rfl

theorem impl_UndoAll_fn : PM.FnIs Try.prog 24 Try.f24 := .of Try.func24 (by kernel_rfl) (by kernel_rfl)
theorem impl_UndoAll_g : PM.GOk Try.prog cx 24 ⟨[], impl_UndoAll_w (impl_UndoAll PM.std), none⟩ := by
  refine ⟨impl_UndoAll_fn.enter, fun _ ds k r h => ?_, fun hm => absurd rfl hm, fun _ e => (by cases e)⟩
  change impl_UndoAll_w (impl_UndoAll PM.std) ds k = some r at h
  unfold impl_UndoAll_w at h
  split at h
  · exact PM.pfun_ok (E := impl_UndoAll_E PM.std (impl_copyShelf PM.std) (impl_UndoOne PM.std)) (L := fun n => impl_UndoAll_L PM.std (impl_copyShelf PM.std) (impl_UndoOne PM.std) n) (N := PM.std.fuel) cx_ok (.cons impl_copyShelf_g (.cons impl_UndoOne_g .nil)) mixed .nil impl_UndoAll_fn (by kernel_rfl) ⟨rfl, fun cur σ K => by
      dsimp only [impl_UndoAll_L]
      split <;> rfl, fun n cur σ K r h => by
      dsimp only [impl_UndoAll_L] at h
      split at h
      · exact (impl_UndoAll_l0_ok PM.std (impl_copyShelf PM.std) (impl_UndoOne PM.std) n _ _ _ _ _ _ K).symm.trans h
      · cases h⟩
      ((impl_UndoAll_ok PM.std (impl_copyShelf PM.std) (impl_UndoOne PM.std) _ _ _ k).trans h)
  · cases h

abbrev laws_FnUndone_T := (List Int) → ((Bool) → PM.R) → PM.R
noncomputable def laws_FnUndone_w (c : laws_FnUndone_T) (ds : List PM.V) (k : PM.V → PM.R) : PM.R :=
  match ds with
  | [.arr (.ints 5 .u8 __)] => c __ (fun r0 => k (.bool r0))
  | _ => none
noncomputable def laws_FnUndone_l0 (A : PM.Prims) (c_6 : laws_big_T) (c_10 : laws_sameInts_T) (c_11 : impl_MapOf_T) (c_16 : spec_DrawBoostDo_T) (c_17 : laws_fresh_T) (c_18 : spec_ShelfOk_T) (c_21 : impl_BoostDo_T) (c_25 : impl_UndoOk_T) (c_23 : spec_BoostDo_T) (c_24 : impl_UndoAll_T) : Nat → (List Int) → (List Int) → (Int) → (List Int) → (Int) → (List Int) → (Int) → (Int) → (Int) → (Int) → (List (List Int)) → ((List Int) → (Int) → (List Int) → (Int) → (Int) → (Int) → (Int) → (List (List Int)) → PM.R) → PM.R
  | 0, _, _, _, _, _, _, _, _, _, _, _, _ => none
  | n + 1, code23, r24, i25, o026, o027, o128, o129, o230, o231, o232, o333, kx0_0 =>
    bif (A.lt i25 6) then
      c_17 code23 i25 (fun r34 =>
        c_16 r34 (fun r35 r36 r37 r38 r39 r40 r41 =>
          c_21 o128 o129 r37 r38 r39 r40 r24 (fun r42 r43 r44 r45 r46 r47 r48 =>
            bif r48 then
              bif (A.room (A.vlen o333) (A.vlen [[r45, r46, r47]])) then
                laws_FnUndone_l0 A c_6 c_10 c_11 c_16 c_17 c_18 c_21 c_25 c_23 c_24 n code23 r24 (A.add .i64 i25 1) o026 o027 r42 r43 o230 o231 o232 (A.vapp o333 [[r45, r46, r47]]) kx0_0
              else
                none
            else
              laws_FnUndone_l0 A c_6 c_10 c_11 c_16 c_17 c_18 c_21 c_25 c_23 c_24 n code23 r24 (A.add .i64 i25 1) o026 o027 o128 o129 o230 o231 o232 o333 kx0_0)))
    else
      kx0_0 o026 o027 o128 o129 o230 o231 o232 o333
noncomputable def laws_FnUndone_f (A : PM.Prims) (c_6 : laws_big_T) (c_10 : laws_sameInts_T) (c_11 : impl_MapOf_T) (c_16 : spec_DrawBoostDo_T) (c_17 : laws_fresh_T) (c_18 : spec_ShelfOk_T) (c_21 : impl_BoostDo_T) (c_25 : impl_UndoOk_T) (c_23 : spec_BoostDo_T) (c_24 : impl_UndoAll_T) (__ : List Int) (k : (Bool) → PM.R) : PM.R :=
  c_6 __ (fun r1 =>
    bif r1 then
      k true
    else
      c_16 __ (fun r2 r3 r4 r5 r6 r7 r8 =>
        c_21 r2 r3 r4 r5 r6 r7 r8 (fun r9 r10 r11 r12 r13 r14 r15 =>
          c_23 r2 r3 r4 r5 r6 r7 r8 (fun r16 r17 r18 r19 r20 r21 r22 =>
            bif (A.not (A.beq r15 r22)) then
              k false
            else
              bif (A.not r15) then
                k (A.and (A.eq r12 0) (A.and (A.eq r13 0) (A.eq r14 0)))
              else
                laws_FnUndone_l0 A c_6 c_10 c_11 c_16 c_17 c_18 c_21 c_25 c_23 c_24 A.fuel __ r8 0 r2 r3 r9 r10 r12 r13 r14 [[r12, r13, r14]] (fun o04957 o05058 o15159 o15260 o25361 o25462 o25563 o35664 =>
                  c_24 o15159 o15260 o35664 (fun r65 r66 =>
                    c_18 o15159 o15260 (fun r67 =>
                      bif r67 then
                        c_18 r65 r66 (fun r68 =>
                          bif r68 then
                            bif (A.eq r66 o05058) then
                              c_11 r65 (fun r69 =>
                                c_11 o04957 (fun r70 =>
                                  c_10 r69 r70 (fun r71 =>
                                    bif r71 then
                                      c_25 o25361 o25462 o25563 (fun r72 =>
                                        k r72)
                                    else
                                      k false)))
                            else
                              k false
                          else
                            k false)
                      else
                        k false)))))))
noncomputable def laws_FnUndone (A : PM.Prims) : laws_FnUndone_T := laws_FnUndone_f A (laws_big A) (laws_sameInts A) (impl_MapOf A) (spec_DrawBoostDo A) (laws_fresh A) (spec_ShelfOk A) (impl_BoostDo A) (impl_UndoOk A) (spec_BoostDo A) (impl_UndoAll A)
noncomputable def laws_FnUndone_L (A : PM.Prims) (c_6 : laws_big_T) (c_10 : laws_sameInts_T) (c_11 : impl_MapOf_T) (c_16 : spec_DrawBoostDo_T) (c_17 : laws_fresh_T) (c_18 : spec_ShelfOk_T) (c_21 : impl_BoostDo_T) (c_25 : impl_UndoOk_T) (c_23 : spec_BoostDo_T) (c_24 : impl_UndoAll_T) (n : Nat) : PM.Lam := fun cur σ K =>
  match cur, σ, K with
  | 0, ⟨[(0, .arr (.ints 5 .u8 code23)), (3, .pbox 0 0), (5, .arr (.ints 3 .i64 r24)), (6, .pbox 1 0), (8, .pbox 2 0), (14, .sref 3), (15, .int .i64 i25)], [(0, .box [.arr (.ints 3 .i64 o026), .int .i64 o027]), (1, .box [.arr (.ints 3 .i64 o128), .int .i64 o129]), (2, .box [.int .i64 o230, .int .i64 o231, .int .i64 o232]), (3, .arr true (.vecs 48 3 o333))]⟩, K => laws_FnUndone_l0 A c_6 c_10 c_11 c_16 c_17 c_18 c_21 c_25 c_23 c_24 n code23 r24 i25 o026 o027 o128 o129 o230 o231 o232 o333 (fun o049 o050 o151 o152 o253 o254 o255 o356 => K (.exit 0) ⟨[(3, .pbox 0 0), (6, .pbox 1 0), (8, .pbox 2 0), (14, .sref 3)], [(0, .box [.arr (.ints 3 .i64 o049), .int .i64 o050]), (1, .box [.arr (.ints 3 .i64 o151), .int .i64 o152]), (2, .box [.int .i64 o253, .int .i64 o254, .int .i64 o255]), (3, .arr true (.vecs 48 3 o356))]⟩)
  | _, _, _ => none
noncomputable def laws_FnUndone_E (A : PM.Prims) (c_6 : laws_big_T) (c_10 : laws_sameInts_T) (c_11 : impl_MapOf_T) (c_16 : spec_DrawBoostDo_T) (c_17 : laws_fresh_T) (c_18 : spec_ShelfOk_T) (c_21 : impl_BoostDo_T) (c_25 : impl_UndoOk_T) (c_23 : spec_BoostDo_T) (c_24 : impl_UndoAll_T) : PM.Env := ⟨[(6, ⟨[], fun _ _ => none, some (PM.spImm (laws_big_w c_6))⟩), (10, ⟨[], fun _ _ => none, some (PM.spImm (laws_sameInts_w c_10))⟩), (11, ⟨[], fun _ _ => none, some (PM.spImm (impl_MapOf_w c_11))⟩), (16, ⟨[], fun _ _ => none, some (PM.spImm (spec_DrawBoostDo_w c_16))⟩), (17, ⟨[], fun _ _ => none, some (PM.spImm (laws_fresh_w c_17))⟩), (18, ⟨[], fun _ _ => none, some (PM.spImm (spec_ShelfOk_w c_18))⟩), (21, ⟨[], fun _ _ => none, some (PM.spImm (impl_BoostDo_w c_21))⟩), (25, ⟨[], fun _ _ => none, some (PM.spImm (impl_UndoOk_w c_25))⟩), (23, ⟨[], fun _ _ => none, some (PM.spImm (spec_BoostDo_w c_23))⟩), (24, ⟨[], fun _ _ => none, some (PM.spImm (impl_UndoAll_w c_24))⟩)], [], [(0, [0, 3, 5, 6, 8, 14, 15], [2, 3, 6, 8, 14])], [(0, [0]), (1, [0, 25]), (2, [2]), (3, [0, 3, 4, 5]), (4, [0, 3, 4, 5, 6, 8, 9]), (5, [0, 3, 5, 6, 8, 9, 13]), (6, [0, 3, 5, 6, 8, 9, 52]), (7, [2]), (8, [0, 3, 5, 6, 8, 54]), (9, [2]), (10, [0, 3, 5, 6, 8, 14]), (11, [0, 3, 5, 6, 8, 14, 15]), (12, [0, 3, 5, 6, 8, 14, 15, 61]), (13, [0, 3, 5, 6, 8, 14, 15]), (14, [0, 3, 5, 6, 8, 14, 15, 17]), (15, [0, 3, 5, 6, 8, 14, 15, 19, 21, 22]), (16, [0, 3, 5, 6, 8, 14, 15, 19, 21, 81]), (17, [0, 3, 5, 6, 8, 14, 15, 19]), (18, [0, 3, 5, 6, 8, 14, 15]), (19, [3, 6, 8, 23]), (20, [2])], laws_FnUndone_L A c_6 c_10 c_11 c_16 c_17 c_18 c_21 c_25 c_23 c_24 A.fuel⟩
theorem laws_FnUndone_l0_ok (A : PM.Prims) (c_6 : laws_big_T) (c_10 : laws_sameInts_T) (c_11 : impl_MapOf_T) (c_16 : spec_DrawBoostDo_T) (c_17 : laws_fresh_T) (c_18 : spec_ShelfOk_T) (c_21 : impl_BoostDo_T) (c_25 : impl_UndoOk_T) (c_23 : spec_BoostDo_T) (c_24 : impl_UndoAll_T) (n : Nat) (code23 : List Int) (r24 : List Int) (i25 : Int) (o026 : List Int) (o027 : Int) (o128 : List Int) (o129 : Int) (o230 : Int) (o231 : Int) (o232 : Int) (o333 : List (List Int)) (K : Go.Exit → PM.S → PM.R) : laws_FnUndone_L A c_6 c_10 c_11 c_16 c_17 c_18 c_21 c_25 c_23 c_24 (n + 1) 0 ⟨[(0, .arr (.ints 5 .u8 code23)), (3, .pbox 0 0), (5, .arr (.ints 3 .i64 r24)), (6, .pbox 1 0), (8, .pbox 2 0), (14, .sref 3), (15, .int .i64 i25)], [(0, .box [.arr (.ints 3 .i64 o026), .int .i64 o027]), (1, .box [.arr (.ints 3 .i64 o128), .int .i64 o129]), (2, .box [.int .i64 o230, .int .i64 o231, .int .i64 o232]), (3, .arr true (.vecs 48 3 o333))]⟩ K = PM.roundF A cx (PM.runD A cx (laws_FnUndone_E A c_6 c_10 c_11 c_16 c_17 c_18 c_21 c_25 c_23 c_24).inl (laws_FnUndone_E A c_6 c_10 c_11 c_16 c_17 c_18 c_21 c_25 c_23 c_24).Γ 3) (laws_FnUndone_E A c_6 c_10 c_11 c_16 c_17 c_18 c_21 c_25 c_23 c_24) (laws_FnUndone_L A c_6 c_10 c_11 c_16 c_17 c_18 c_21 c_25 c_23 c_24 n) 0 Go.Proofs.Try.f5 ⟨[(0, .arr (.ints 5 .u8 code23)), (3, .pbox 0 0), (5, .arr (.ints 3 .i64 r24)), (6, .pbox 1 0), (8, .pbox 2 0), (14, .sref 3), (15, .int .i64 i25)], [(0, .box [.arr (.ints 3 .i64 o026), .int .i64 o027]), (1, .box [.arr (.ints 3 .i64 o128), .int .i64 o129]), (2, .box [.int .i64 o230, .int .i64 o231, .int .i64 o232]), (3, .arr true (.vecs 48 3 o333))]⟩ K := by kernel_rfl
theorem laws_FnUndone_ok (A : PM.Prims) (c_6 : laws_big_T) (c_10 : laws_sameInts_T) (c_11 : impl_MapOf_T) (c_16 : spec_DrawBoostDo_T) (c_17 : laws_fresh_T) (c_18 : spec_ShelfOk_T) (c_21 : impl_BoostDo_T) (c_25 : impl_UndoOk_T) (c_23 : spec_BoostDo_T) (c_24 : impl_UndoAll_T) (__ : List Int) (k : PM.V → PM.R) : PM.pfun A cx [] (laws_FnUndone_E A c_6 c_10 c_11 c_16 c_17 c_18 c_21 c_25 c_23 c_24) Go.Proofs.Try.f5 [.arr (.ints 5 .u8 __)] k = laws_FnUndone_f A c_6 c_10 c_11 c_16 c_17 c_18 c_21 c_25 c_23 c_24 __ (fun r0 => k (.bool r0)) := by kernel_rfl

theorem laws_FnUndone_fn : PM.FnIs Try.prog 5 Try.f5 := .of Try.func5 (by kernel_rfl) (by kernel_rfl)
theorem laws_FnUndone_g : PM.GOk Try.prog cx 5 ⟨[], laws_FnUndone_w (laws_FnUndone PM.std), none⟩ := by
  refine ⟨laws_FnUndone_fn.enter, fun _ ds k r h => ?_, fun hm => absurd rfl hm, fun _ e => (by cases e)⟩
  change laws_FnUndone_w (laws_FnUndone PM.std) ds k = some r at h
  unfold laws_FnUndone_w at h
  split at h
  · exact PM.pfun_ok (E := laws_FnUndone_E PM.std (laws_big PM.std) (laws_sameInts PM.std) (impl_MapOf PM.std) (spec_DrawBoostDo PM.std) (laws_fresh PM.std) (spec_ShelfOk PM.std) (impl_BoostDo PM.std) (impl_UndoOk PM.std) (spec_BoostDo PM.std) (impl_UndoAll PM.std)) (L := fun n => laws_FnUndone_L PM.std (laws_big PM.std) (laws_sameInts PM.std) (impl_MapOf PM.std) (spec_DrawBoostDo PM.std) (laws_fresh PM.std) (spec_ShelfOk PM.std) (impl_BoostDo PM.std) (impl_UndoOk PM.std) (spec_BoostDo PM.std) (impl_UndoAll PM.std) n) (N := PM.std.fuel) cx_ok (.cons (PM.GOk.imm laws_big_g) (.cons (PM.GOk.imm laws_sameInts_g) (.cons (PM.GOk.imm impl_MapOf_g) (.cons (PM.GOk.imm spec_DrawBoostDo_g) (.cons (PM.GOk.imm laws_fresh_g) (.cons (PM.GOk.imm spec_ShelfOk_g) (.cons (PM.GOk.imm impl_BoostDo_g) (.cons (PM.GOk.imm impl_UndoOk_g) (.cons (PM.GOk.imm spec_BoostDo_g) (.cons (PM.GOk.imm impl_UndoAll_g) .nil)))))))))) mixed .nil laws_FnUndone_fn (by kernel_rfl) ⟨rfl, fun cur σ K => by
      dsimp only [laws_FnUndone_L]
      split <;> rfl, fun n cur σ K r h => by
      dsimp only [laws_FnUndone_L] at h
      split at h
      · exact (laws_FnUndone_l0_ok PM.std (laws_big PM.std) (laws_sameInts PM.std) (impl_MapOf PM.std) (spec_DrawBoostDo PM.std) (laws_fresh PM.std) (spec_ShelfOk PM.std) (impl_BoostDo PM.std) (impl_UndoOk PM.std) (spec_BoostDo PM.std) (impl_UndoAll PM.std) n _ _ _ _ _ _ _ _ _ _ _ K).symm.trans h
      · cases h⟩
      ((laws_FnUndone_ok PM.std (laws_big PM.std) (laws_sameInts PM.std) (impl_MapOf PM.std) (spec_DrawBoostDo PM.std) (laws_fresh PM.std) (spec_ShelfOk PM.std) (impl_BoostDo PM.std) (impl_UndoOk PM.std) (spec_BoostDo PM.std) (impl_UndoAll PM.std) _ k).trans h)
  · cases h

end X
