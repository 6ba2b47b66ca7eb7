/- Models of the functions, or plain laws about them; each theorem states its own conditions. -/
import Derived.Test.YtlcgddghildedaaMdlA
import Derived.Test.YtlcgddghildedaaL3
import Derived.Test.YtlcgddghildedaaProg
import Derived.KernelRfl
set_option linter.unusedVariables false
set_option linter.unusedSimpArgs false
open Go.Proofs
namespace X
open PM
set_option maxRecDepth 100000
set_option maxHeartbeats 4000000
abbrev impl_isReg_T := (Int) → ((Bool) → PM.R) → PM.R
noncomputable def impl_isReg_w (c : impl_isReg_T) (ds : List PM.V) (k : PM.V → PM.R) : PM.R :=
  match ds with
  | [.int .i64 r] => c r (fun r0 => k (.bool r0))
  | _ => none
noncomputable def impl_isReg_f (A : PM.Prims) (c_134 : impl_within_T) (r : Int) (k : (Bool) → PM.R) : PM.R :=
  c_134 r 0 3 (fun r1 =>
    k r1)
noncomputable def impl_isReg (A : PM.Prims) : impl_isReg_T := impl_isReg_f A (impl_within A)
noncomputable def impl_isReg_L (A : PM.Prims) (c_134 : impl_within_T) (n : Nat) : PM.Lam := fun cur σ K =>
  match cur, σ, K with
  | _, _, _ => none
noncomputable def impl_isReg_E (A : PM.Prims) (c_134 : impl_within_T) : PM.Env := ⟨[(134, ⟨[], impl_within_w c_134, none⟩)], [], [], [(0, [0]), (1, [2])], impl_isReg_L A c_134 A.fuel⟩
theorem impl_isReg_ok (A : PM.Prims) (c_134 : impl_within_T) (r : Int) (k : PM.V → PM.R) : PM.pfun A cx [] (impl_isReg_E A c_134) Go.Proofs.Try.f317 [.int .i64 r] k = impl_isReg_f A c_134 r (fun r0 => k (.bool r0)) := by kernel_rfl

theorem impl_isReg_fn : PM.FnIs Try.prog 317 Try.f317 := .of Try.func317 (by kernel_rfl) (by kernel_rfl)
theorem impl_isReg_g : PM.GOk Try.prog cx 317 ⟨[], impl_isReg_w (impl_isReg PM.std), none⟩ := by
  refine ⟨impl_isReg_fn.enter, fun _ ds k r h => ?_, fun hm => absurd rfl hm, fun _ e => (by cases e)⟩
  change impl_isReg_w (impl_isReg PM.std) ds k = some r at h
  unfold impl_isReg_w at h
  split at h
  · exact PM.pfun_ok (E := impl_isReg_E PM.std (impl_within PM.std)) (L := fun n => impl_isReg_L PM.std (impl_within PM.std) n) (N := PM.std.fuel) cx_ok (.cons impl_within_g .nil) mixed .nil impl_isReg_fn (by kernel_rfl) ⟨rfl, fun _ _ _ => rfl, fun n cur σ K r h => by cases h⟩
      ((impl_isReg_ok PM.std (impl_within PM.std) _ k).trans h)
  · cases h

abbrev impl_isKey_T := (Int) → ((Bool) → PM.R) → PM.R
noncomputable def impl_isKey_w (c : impl_isKey_T) (ds : List PM.V) (k : PM.V → PM.R) : PM.R :=
  match ds with
  | [.int .i64 k_] => c k_ (fun r0 => k (.bool r0))
  | _ => none
noncomputable def impl_isKey_f (A : PM.Prims) (c_134 : impl_within_T) (k_ : Int) (k : (Bool) → PM.R) : PM.R :=
  c_134 k_ 0 7 (fun r1 =>
    k r1)
noncomputable def impl_isKey (A : PM.Prims) : impl_isKey_T := impl_isKey_f A (impl_within A)
noncomputable def impl_isKey_L (A : PM.Prims) (c_134 : impl_within_T) (n : Nat) : PM.Lam := fun cur σ K =>
  match cur, σ, K with
  | _, _, _ => none
noncomputable def impl_isKey_E (A : PM.Prims) (c_134 : impl_within_T) : PM.Env := ⟨[(134, ⟨[], impl_within_w c_134, none⟩)], [], [], [(0, [0]), (1, [2])], impl_isKey_L A c_134 A.fuel⟩
theorem impl_isKey_ok (A : PM.Prims) (c_134 : impl_within_T) (k_ : Int) (k : PM.V → PM.R) : PM.pfun A cx [] (impl_isKey_E A c_134) Go.Proofs.Try.f318 [.int .i64 k_] k = impl_isKey_f A c_134 k_ (fun r0 => k (.bool r0)) := by kernel_rfl

theorem impl_isKey_fn : PM.FnIs Try.prog 318 Try.f318 := .of Try.func318 (by kernel_rfl) (by kernel_rfl)
theorem impl_isKey_g : PM.GOk Try.prog cx 318 ⟨[], impl_isKey_w (impl_isKey PM.std), none⟩ := by
  refine ⟨impl_isKey_fn.enter, fun _ ds k r h => ?_, fun hm => absurd rfl hm, fun _ e => (by cases e)⟩
  change impl_isKey_w (impl_isKey PM.std) ds k = some r at h
  unfold impl_isKey_w at h
  split at h
  · exact PM.pfun_ok (E := impl_isKey_E PM.std (impl_within PM.std)) (L := fun n => impl_isKey_L PM.std (impl_within PM.std) n) (N := PM.std.fuel) cx_ok (.cons impl_within_g .nil) mixed .nil impl_isKey_fn (by kernel_rfl) ⟨rfl, fun _ _ _ => rfl, fun n cur σ K r h => by cases h⟩
      ((impl_isKey_ok PM.std (impl_within PM.std) _ k).trans h)
  · cases h

abbrev impl_OpOk_T := (Int) → (Int) → (Int) → (Int) → ((Bool) → PM.R) → PM.R
noncomputable def impl_OpOk_w (c : impl_OpOk_T) (ds : List PM.V) (k : PM.V → PM.R) : PM.R :=
  match ds with
  | [.agg [.int .i64 ___Kind, .int .i64 ___A, .int .i64 ___B, .int .i64 ___C]] => c ___Kind ___A ___B ___C (fun r0 => k (.bool r0))
  | _ => none
noncomputable def impl_OpOk_f (A : PM.Prims) (c_134 : impl_within_T) (c_144 : impl_isCell_T) (c_193 : impl_isValue_T) (c_317 : impl_isReg_T) (c_318 : impl_isKey_T) (___Kind : Int) (___A : Int) (___B : Int) (___C : Int) (k : (Bool) → PM.R) : PM.R :=
  bif (A.eq ___Kind 1) then
    c_317 ___A (fun r1 =>
      bif r1 then
        c_193 ___B (fun r2 =>
          bif r2 then
            k (A.eq ___C 0)
          else
            k false)
      else
        k false)
  else
    bif (A.eq ___Kind 2) then
      c_317 ___A (fun r3 =>
        bif r3 then
          c_317 ___B (fun r4 =>
            bif r4 then
              c_317 ___C (fun r5 =>
                k r5)
            else
              k false)
        else
          k false)
    else
      bif (A.eq ___Kind 3) then
        c_317 ___A (fun r6 =>
          bif r6 then
            c_317 ___B (fun r7 =>
              bif r7 then
                c_317 ___C (fun r8 =>
                  k r8)
              else
                k false)
          else
            k false)
      else
        bif (A.eq ___Kind 4) then
          c_317 ___A (fun r9 =>
            bif r9 then
              c_317 ___B (fun r10 =>
                bif r10 then
                  c_317 ___C (fun r11 =>
                    k r11)
                else
                  k false)
            else
              k false)
        else
          bif (A.eq ___Kind 5) then
            c_317 ___A (fun r12 =>
              bif r12 then
                c_144 ___B (fun r13 =>
                  bif r13 then
                    k (A.eq ___C 0)
                  else
                    k false)
              else
                k false)
          else
            bif (A.eq ___Kind 6) then
              c_144 ___A (fun r14 =>
                bif r14 then
                  c_317 ___B (fun r15 =>
                    bif r15 then
                      k (A.eq ___C 0)
                    else
                      k false)
                else
                  k false)
            else
              bif (A.eq ___Kind 7) then
                c_317 ___A (fun r16 =>
                  bif r16 then
                    c_134 ___B 1 20 (fun r17 =>
                      bif r17 then
                        k (A.eq ___C 0)
                      else
                        k false)
                  else
                    k false)
              else
                bif (A.eq ___Kind 8) then
                  c_317 ___A (fun r18 =>
                    bif r18 then
                      bif (A.eq ___B 0) then
                        k (A.eq ___C 0)
                      else
                        k false
                    else
                      k false)
                else
                  bif (A.eq ___Kind 15) then
                    c_317 ___A (fun r19 =>
                      bif r19 then
                        bif (A.eq ___B 0) then
                          k (A.eq ___C 0)
                        else
                          k false
                      else
                        k false)
                  else
                    bif (A.eq ___Kind 16) then
                      c_317 ___A (fun r20 =>
                        bif r20 then
                          bif (A.eq ___B 0) then
                            k (A.eq ___C 0)
                          else
                            k false
                        else
                          k false)
                    else
                      bif (A.eq ___Kind 9) then
                        bif (A.eq ___A 0) then
                          bif (A.eq ___B 0) then
                            k (A.eq ___C 0)
                          else
                            k false
                        else
                          k false
                      else
                        bif (A.eq ___Kind 10) then
                          bif (A.eq ___A 0) then
                            bif (A.eq ___B 0) then
                              k (A.eq ___C 0)
                            else
                              k false
                          else
                            k false
                        else
                          bif (A.eq ___Kind 11) then
                            bif (A.eq ___A 0) then
                              bif (A.eq ___B 0) then
                                k (A.eq ___C 0)
                              else
                                k false
                            else
                              k false
                          else
                            bif (A.eq ___Kind 12) then
                              c_318 ___A (fun r21 =>
                                bif r21 then
                                  c_317 ___B (fun r22 =>
                                    bif r22 then
                                      c_317 ___C (fun r23 =>
                                        k r23)
                                    else
                                      k false)
                                else
                                  k false)
                            else
                              bif (A.eq ___Kind 13) then
                                c_317 ___A (fun r24 =>
                                  bif r24 then
                                    c_318 ___B (fun r25 =>
                                      bif r25 then
                                        k (A.eq ___C 0)
                                      else
                                        k false)
                                  else
                                    k false)
                              else
                                bif (A.eq ___Kind 14) then
                                  c_318 ___A (fun r26 =>
                                    bif r26 then
                                      c_317 ___B (fun r27 =>
                                        bif r27 then
                                          k (A.eq ___C 0)
                                        else
                                          k false)
                                    else
                                      k false)
                                else
                                  k false
noncomputable def impl_OpOk (A : PM.Prims) : impl_OpOk_T := impl_OpOk_f A (impl_within A) (impl_isCell A) (impl_isValue A) (impl_isReg A) (impl_isKey A)
noncomputable def impl_OpOk_L (A : PM.Prims) (c_134 : impl_within_T) (c_144 : impl_isCell_T) (c_193 : impl_isValue_T) (c_317 : impl_isReg_T) (c_318 : impl_isKey_T) (n : Nat) : PM.Lam := fun cur σ K =>
  match cur, σ, K with
  | _, _, _ => none
noncomputable def impl_OpOk_E (A : PM.Prims) (c_134 : impl_within_T) (c_144 : impl_isCell_T) (c_193 : impl_isValue_T) (c_317 : impl_isReg_T) (c_318 : impl_isKey_T) : PM.Env := ⟨[(134, ⟨[], impl_within_w c_134, none⟩), (144, ⟨[], impl_isCell_w c_144, none⟩), (193, ⟨[], impl_isValue_w c_193, none⟩), (317, ⟨[], impl_isReg_w c_317, none⟩), (318, ⟨[], impl_isKey_w c_318, none⟩)], [], [], [(0, [1]), (1, [1, 4]), (2, [1, 4, 5]), (3, [2]), (4, [1, 4, 20]), (5, [1, 4, 20]), (6, [1, 4, 20]), (7, [2]), (8, [1, 4, 37]), (9, [2]), (10, [1, 4, 52]), (11, [2]), (12, [1, 4, 67]), (13, [2]), (14, [1, 4, 82]), (15, [1, 4, 82]), (16, [1, 4, 82]), (17, [2]), (18, [1, 4, 99]), (19, [1, 4, 99]), (20, [1, 4, 99]), (21, [2]), (22, [1, 4, 116]), (23, [2]), (24, [1, 4, 131]), (25, [2]), (26, [1, 146]), (27, [2]), (28, [2])], impl_OpOk_L A c_134 c_144 c_193 c_317 c_318 A.fuel⟩
theorem impl_OpOk_ok (A : PM.Prims) (c_134 : impl_within_T) (c_144 : impl_isCell_T) (c_193 : impl_isValue_T) (c_317 : impl_isReg_T) (c_318 : impl_isKey_T) (___Kind : Int) (___A : Int) (___B : Int) (___C : Int) (k : PM.V → PM.R) : PM.pfun A cx [] (impl_OpOk_E A c_134 c_144 c_193 c_317 c_318) Go.Proofs.Try.f283 [.agg [.int .i64 ___Kind, .int .i64 ___A, .int .i64 ___B, .int .i64 ___C]] k = impl_OpOk_f A c_134 c_144 c_193 c_317 c_318 ___Kind ___A ___B ___C (fun r0 => k (.bool r0)) := by kernel_rfl

theorem impl_OpOk_fn : PM.FnIs Try.prog 283 Try.f283 := .of Try.func283 (by kernel_rfl) (by kernel_rfl)
theorem impl_OpOk_g : PM.GOk Try.prog cx 283 ⟨[], impl_OpOk_w (impl_OpOk PM.std), none⟩ := by
  refine ⟨impl_OpOk_fn.enter, fun _ ds k r h => ?_, fun hm => absurd rfl hm, fun _ e => (by cases e)⟩
  change impl_OpOk_w (impl_OpOk PM.std) ds k = some r at h
  unfold impl_OpOk_w at h
  split at h
  · exact PM.pfun_ok (E := impl_OpOk_E PM.std (impl_within PM.std) (impl_isCell PM.std) (impl_isValue PM.std) (impl_isReg PM.std) (impl_isKey PM.std)) (L := fun n => impl_OpOk_L PM.std (impl_within PM.std) (impl_isCell PM.std) (impl_isValue PM.std) (impl_isReg PM.std) (impl_isKey PM.std) n) (N := PM.std.fuel) cx_ok (.cons impl_within_g (.cons impl_isCell_g (.cons impl_isValue_g (.cons impl_isReg_g (.cons impl_isKey_g .nil))))) mixed .nil impl_OpOk_fn (by kernel_rfl) ⟨rfl, fun _ _ _ => rfl, fun n cur σ K r h => by cases h⟩
      ((impl_OpOk_ok PM.std (impl_within PM.std) (impl_isCell PM.std) (impl_isValue PM.std) (impl_isReg PM.std) (impl_isKey PM.std) _ _ _ _ k).trans h)
  · cases h

abbrev impl_Touches_T := (Int) → (Int) → (Int) → (Int) → ((Int) → PM.R) → PM.R
noncomputable def impl_Touches_w (c : impl_Touches_T) (ds : List PM.V) (k : PM.V → PM.R) : PM.R :=
  match ds with
  | [.agg [.int .i64 o_Kind, .int .i64 o_A, .int .i64 o_B, .int .i64 o_C]] => c o_Kind o_A o_B o_C (fun r0 => k (.int .i64 r0))
  | _ => none
noncomputable def impl_Touches_f (A : PM.Prims) (c_283 : impl_OpOk_T) (o_Kind : Int) (o_A : Int) (o_B : Int) (o_C : Int) (k : (Int) → PM.R) : PM.R :=
  c_283 o_Kind o_A o_B o_C (fun r1 =>
    bif (A.not r1) then
      k 0
    else
      bif (A.eq o_Kind 5) then
        k 1
      else
        bif (A.eq o_Kind 6) then
          k 1
        else
          bif (A.eq o_Kind 12) then
            k 2
          else
            bif (A.eq o_Kind 13) then
              k 2
            else
              bif (A.eq o_Kind 14) then
                k 2
              else
                bif (A.eq o_Kind 15) then
                  k 2
                else
                  bif (A.eq o_Kind 16) then
                    k 2
                  else
                    k 0)
noncomputable def impl_Touches (A : PM.Prims) : impl_Touches_T := impl_Touches_f A (impl_OpOk A)
noncomputable def impl_Touches_L (A : PM.Prims) (c_283 : impl_OpOk_T) (n : Nat) : PM.Lam := fun cur σ K =>
  match cur, σ, K with
  | _, _, _ => none
noncomputable def impl_Touches_E (A : PM.Prims) (c_283 : impl_OpOk_T) : PM.Env := ⟨[(283, ⟨[], impl_OpOk_w c_283, none⟩)], [], [], [(0, [1]), (1, [1, 5]), (2, [2]), (3, [7]), (4, [7, 8]), (5, [7, 8]), (6, [2]), (7, [7, 11]), (8, [7, 11]), (9, [7, 11]), (10, [7, 11]), (11, [11]), (12, [2]), (13, [2])], impl_Touches_L A c_283 A.fuel⟩
theorem impl_Touches_ok (A : PM.Prims) (c_283 : impl_OpOk_T) (o_Kind : Int) (o_A : Int) (o_B : Int) (o_C : Int) (k : PM.V → PM.R) : PM.pfun A cx [] (impl_Touches_E A c_283) Go.Proofs.Try.f227 [.agg [.int .i64 o_Kind, .int .i64 o_A, .int .i64 o_B, .int .i64 o_C]] k = impl_Touches_f A c_283 o_Kind o_A o_B o_C (fun r0 => k (.int .i64 r0)) := by kernel_rfl

theorem impl_Touches_fn : PM.FnIs Try.prog 227 Try.f227 := .of Try.func227 (by kernel_rfl) (by kernel_rfl)
theorem impl_Touches_g : PM.GOk Try.prog cx 227 ⟨[], impl_Touches_w (impl_Touches PM.std), none⟩ := by
  refine ⟨impl_Touches_fn.enter, fun _ ds k r h => ?_, fun hm => absurd rfl hm, fun _ e => (by cases e)⟩
  change impl_Touches_w (impl_Touches PM.std) ds k = some r at h
  unfold impl_Touches_w at h
  split at h
  · exact PM.pfun_ok (E := impl_Touches_E PM.std (impl_OpOk PM.std)) (L := fun n => impl_Touches_L PM.std (impl_OpOk PM.std) n) (N := PM.std.fuel) cx_ok (.cons impl_OpOk_g .nil) mixed .nil impl_Touches_fn (by kernel_rfl) ⟨rfl, fun _ _ _ => rfl, fun n cur σ K r h => by cases h⟩
      ((impl_Touches_ok PM.std (impl_OpOk PM.std) _ _ _ _ k).trans h)
  · cases h

abbrev impl_opens_T := (Int) → (Int) → (Int) → (Int) → ((Int) → PM.R) → PM.R
noncomputable def impl_opens_w (c : impl_opens_T) (ds : List PM.V) (k : PM.V → PM.R) : PM.R :=
  match ds with
  | [.agg [.int .i64 o_Kind, .int .i64 o_A, .int .i64 o_B, .int .i64 o_C]] => c o_Kind o_A o_B o_C (fun r0 => k (.int .i64 r0))
  | _ => none
noncomputable def impl_opens_f (A : PM.Prims) (o_Kind : Int) (o_A : Int) (o_B : Int) (o_C : Int) (k : (Int) → PM.R) : PM.R :=
  bif (A.eq o_Kind 8) then
    k 1
  else
    bif (A.eq o_Kind 9) then
      k (-1)
    else
      k 0
noncomputable def impl_opens (A : PM.Prims) : impl_opens_T := impl_opens_f A
noncomputable def impl_opens_L (A : PM.Prims) (n : Nat) : PM.Lam := fun cur σ K =>
  match cur, σ, K with
  | _, _, _ => none
noncomputable def impl_opens_E (A : PM.Prims) : PM.Env := ⟨[], [], [], [(0, [1]), (1, [4]), (2, [4, 5]), (3, [2]), (4, [7]), (5, [2]), (6, [2])], impl_opens_L A A.fuel⟩
theorem impl_opens_ok (A : PM.Prims) (o_Kind : Int) (o_A : Int) (o_B : Int) (o_C : Int) (k : PM.V → PM.R) : PM.pfun A cx [] (impl_opens_E A) Go.Proofs.Try.f319 [.agg [.int .i64 o_Kind, .int .i64 o_A, .int .i64 o_B, .int .i64 o_C]] k = impl_opens_f A o_Kind o_A o_B o_C (fun r0 => k (.int .i64 r0)) := by kernel_rfl

theorem impl_opens_fn : PM.FnIs Try.prog 319 Try.f319 := .of Try.func319 (by kernel_rfl) (by kernel_rfl)
theorem impl_opens_g : PM.GOk Try.prog cx 319 ⟨[], impl_opens_w (impl_opens PM.std), none⟩ := by
  refine ⟨impl_opens_fn.enter, fun _ ds k r h => ?_, fun hm => absurd rfl hm, fun _ e => (by cases e)⟩
  change impl_opens_w (impl_opens PM.std) ds k = some r at h
  unfold impl_opens_w at h
  split at h
  · exact PM.pfun_ok (E := impl_opens_E PM.std) (L := fun n => impl_opens_L PM.std n) (N := PM.std.fuel) cx_ok .nil mixed .nil impl_opens_fn (by kernel_rfl) ⟨rfl, fun _ _ _ => rfl, fun n cur σ K r h => by cases h⟩
      ((impl_opens_ok PM.std _ _ _ _ k).trans h)
  · cases h

abbrev impl_isBalanced_T := (List (List Int)) → ((Bool) → PM.R) → PM.R
noncomputable def impl_isBalanced_w (c : impl_isBalanced_T) (ds : List PM.V) (k : PM.V → PM.R) : PM.R :=
  match ds with
  | [.arr (.vecs 312 4 code)] => c code (fun r0 => k (.bool r0))
  | _ => none
noncomputable def impl_isBalanced_l0 (A : PM.Prims) (c_319 : impl_opens_T) : Nat → (Int) → (List (List Int)) → (Int) → (Int) → ((Bool) → PM.R) → ((Int) → PM.R) → PM.R
  | 0, _, _, _, _, _, _ => none
  | n + 1, n1, t62, t73, t84, kret_0, kx0_0 =>
    bif (A.lt t84 t73) then
      bif (A.inb t84 (A.vlen t62)) then
        c_319 (A.vget t62 t84 0) (A.vget t62 t84 1) (A.vget t62 t84 2) (A.vget t62 t84 3) (fun r5 =>
          bif (A.lt (A.add .i64 n1 r5) 0) then
            kret_0 false
          else
            impl_isBalanced_l0 A c_319 n (A.add .i64 n1 r5) t62 t73 (A.add .i64 t84 1) kret_0 kx0_0)
      else
        none
    else
      kx0_0 n1
noncomputable def impl_isBalanced_f (A : PM.Prims) (c_319 : impl_opens_T) (code : List (List Int)) (k : (Bool) → PM.R) : PM.R :=
  impl_isBalanced_l0 A c_319 A.fuel 0 code (A.vlen code) 0 (fun t268 =>
    k t268) (fun n79 =>
    k (A.eq n79 0))
noncomputable def impl_isBalanced (A : PM.Prims) : impl_isBalanced_T := impl_isBalanced_f A (impl_opens A)
noncomputable def impl_isBalanced_L (A : PM.Prims) (c_319 : impl_opens_T) (n : Nat) : PM.Lam := fun cur σ K =>
  match cur, σ, K with
  | 0, ⟨[(3, .int .i64 n1), (6, .arr (.vecs 312 4 t62)), (7, .int .i64 t73), (8, .int .i64 t84)], []⟩, K => impl_isBalanced_l0 A c_319 n n1 t62 t73 t84 (fun t26 => K .ret ⟨[(2, .bool t26)], []⟩) (fun n7 => K (.exit 0) ⟨[(3, .int .i64 n7)], []⟩)
  | _, _, _ => none
noncomputable def impl_isBalanced_E (A : PM.Prims) (c_319 : impl_opens_T) : PM.Env := ⟨[(319, ⟨[], impl_opens_w c_319, none⟩)], [], [(0, [3, 6, 7, 8], [2, 3])], [(0, [0]), (1, [0, 3]), (2, [3, 6, 7, 8]), (3, [3, 6, 7, 8, 9]), (4, [3, 5, 6, 7, 8]), (5, [3, 6, 7, 8]), (6, [3, 6, 7, 8, 17]), (7, [2]), (8, [3, 6, 7, 8]), (9, [2])], impl_isBalanced_L A c_319 A.fuel⟩
theorem impl_isBalanced_l0_ok (A : PM.Prims) (c_319 : impl_opens_T) (n : Nat) (n1 : Int) (t62 : List (List Int)) (t73 : Int) (t84 : Int) (K : Go.Exit → PM.S → PM.R) : impl_isBalanced_L A c_319 (n + 1) 0 ⟨[(3, .int .i64 n1), (6, .arr (.vecs 312 4 t62)), (7, .int .i64 t73), (8, .int .i64 t84)], []⟩ K = PM.roundF A cx (PM.runD A cx (impl_isBalanced_E A c_319).inl (impl_isBalanced_E A c_319).Γ 3) (impl_isBalanced_E A c_319) (impl_isBalanced_L A c_319 n) 0 Go.Proofs.Try.f284 ⟨[(3, .int .i64 n1), (6, .arr (.vecs 312 4 t62)), (7, .int .i64 t73), (8, .int .i64 t84)], []⟩ K := by kernel_rfl
theorem impl_isBalanced_ok (A : PM.Prims) (c_319 : impl_opens_T) (code : List (List Int)) (k : PM.V → PM.R) : PM.pfun A cx [] (impl_isBalanced_E A c_319) Go.Proofs.Try.f284 [.arr (.vecs 312 4 code)] k = impl_isBalanced_f A c_319 code (fun r0 => k (.bool r0)) := by kernel_rfl

theorem impl_isBalanced_fn : PM.FnIs Try.prog 284 Try.f284 := .of Try.func284 (by kernel_rfl) (by kernel_rfl)
theorem impl_isBalanced_g : PM.GOk Try.prog cx 284 ⟨[], impl_isBalanced_w (impl_isBalanced PM.std), none⟩ := by
  refine ⟨impl_isBalanced_fn.enter, fun _ ds k r h => ?_, fun hm => absurd rfl hm, fun _ e => (by cases e)⟩
  change impl_isBalanced_w (impl_isBalanced PM.std) ds k = some r at h
  unfold impl_isBalanced_w at h
  split at h
  · exact PM.pfun_ok (E := impl_isBalanced_E PM.std (impl_opens PM.std)) (L := fun n => impl_isBalanced_L PM.std (impl_opens PM.std) n) (N := PM.std.fuel) cx_ok (.cons impl_opens_g .nil) mixed .nil impl_isBalanced_fn (by kernel_rfl) ⟨rfl, fun cur σ K => by
      dsimp only [impl_isBalanced_L]
      split <;> rfl, fun n cur σ K r h => by
      dsimp only [impl_isBalanced_L] at h
      split at h
      · exact (impl_isBalanced_l0_ok PM.std (impl_opens PM.std) n _ _ _ _ K).symm.trans h
      · cases h⟩
      ((impl_isBalanced_ok PM.std (impl_opens PM.std) _ k).trans h)
  · cases h

abbrev impl_DepthAt_T := (List (List Int)) → (Int) → ((Int) → PM.R) → PM.R
noncomputable def impl_DepthAt_w (c : impl_DepthAt_T) (ds : List PM.V) (k : PM.V → PM.R) : PM.R :=
  match ds with
  | [.arr (.vecs 312 4 code), .int .i64 i] => c code i (fun r0 => k (.int .i64 r0))
  | _ => none
noncomputable def impl_DepthAt_l0 (A : PM.Prims) (c_319 : impl_opens_T) : Nat → (Int) → (Int) → (List (List Int)) → (Int) → (Int) → ((Int) → PM.R) → PM.R
  | 0, _, _, _, _, _, _ => none
  | n + 1, i1, n2, t83, t94, t105, kx0_0 =>
    bif (A.lt t105 t94) then
      bif (A.inb t105 (A.vlen t83)) then
        bif (A.lt t105 i1) then
          c_319 (A.vget t83 t105 0) (A.vget t83 t105 1) (A.vget t83 t105 2) (A.vget t83 t105 3) (fun r6 =>
            impl_DepthAt_l0 A c_319 n i1 (A.add .i64 n2 r6) t83 t94 (A.add .i64 t105 1) kx0_0)
        else
          impl_DepthAt_l0 A c_319 n i1 n2 t83 t94 (A.add .i64 t105 1) kx0_0
      else
        none
    else
      kx0_0 n2
noncomputable def impl_DepthAt_f (A : PM.Prims) (c_319 : impl_opens_T) (code : List (List Int)) (i : Int) (k : (Int) → PM.R) : PM.R :=
  impl_DepthAt_l0 A c_319 A.fuel i 0 code (A.vlen code) 0 (fun n78 =>
    k n78)
noncomputable def impl_DepthAt (A : PM.Prims) : impl_DepthAt_T := impl_DepthAt_f A (impl_opens A)
noncomputable def impl_DepthAt_L (A : PM.Prims) (c_319 : impl_opens_T) (n : Nat) : PM.Lam := fun cur σ K =>
  match cur, σ, K with
  | 0, ⟨[(1, .int .i64 i1), (5, .int .i64 n2), (8, .arr (.vecs 312 4 t83)), (9, .int .i64 t94), (10, .int .i64 t105)], []⟩, K => impl_DepthAt_l0 A c_319 n i1 n2 t83 t94 t105 (fun n7 => K (.exit 0) ⟨[(5, .int .i64 n7)], []⟩)
  | _, _, _ => none
noncomputable def impl_DepthAt_E (A : PM.Prims) (c_319 : impl_opens_T) : PM.Env := ⟨[(319, ⟨[], impl_opens_w c_319, none⟩)], [], [(0, [1, 5, 8, 9, 10], [4, 5])], [(0, [0, 1]), (1, [0, 1, 5]), (2, [1, 5, 8, 9, 10]), (3, [1, 5, 8, 9, 10, 11]), (4, [1, 5, 6, 7, 8, 9, 10]), (5, [1, 5, 7, 8, 9, 10, 17]), (6, [1, 5, 8, 9, 10]), (7, [1, 5, 8, 9, 10]), (8, [4])], impl_DepthAt_L A c_319 A.fuel⟩
theorem impl_DepthAt_l0_ok (A : PM.Prims) (c_319 : impl_opens_T) (n : Nat) (i1 : Int) (n2 : Int) (t83 : List (List Int)) (t94 : Int) (t105 : Int) (K : Go.Exit → PM.S → PM.R) : impl_DepthAt_L A c_319 (n + 1) 0 ⟨[(1, .int .i64 i1), (5, .int .i64 n2), (8, .arr (.vecs 312 4 t83)), (9, .int .i64 t94), (10, .int .i64 t105)], []⟩ K = PM.roundF A cx (PM.runD A cx (impl_DepthAt_E A c_319).inl (impl_DepthAt_E A c_319).Γ 3) (impl_DepthAt_E A c_319) (impl_DepthAt_L A c_319 n) 0 Go.Proofs.Try.f285 ⟨[(1, .int .i64 i1), (5, .int .i64 n2), (8, .arr (.vecs 312 4 t83)), (9, .int .i64 t94), (10, .int .i64 t105)], []⟩ K := by kernel_rfl
theorem impl_DepthAt_ok (A : PM.Prims) (c_319 : impl_opens_T) (code : List (List Int)) (i : Int) (k : PM.V → PM.R) : PM.pfun A cx [] (impl_DepthAt_E A c_319) Go.Proofs.Try.f285 [.arr (.vecs 312 4 code), .int .i64 i] k = impl_DepthAt_f A c_319 code i (fun r0 => k (.int .i64 r0)) := by kernel_rfl

theorem impl_DepthAt_fn : PM.FnIs Try.prog 285 Try.f285 := .of Try.func285 (by kernel_rfl) (by kernel_rfl)
theorem impl_DepthAt_g : PM.GOk Try.prog cx 285 ⟨[], impl_DepthAt_w (impl_DepthAt PM.std), none⟩ := by
  refine ⟨impl_DepthAt_fn.enter, fun _ ds k r h => ?_, fun hm => absurd rfl hm, fun _ e => (by cases e)⟩
  change impl_DepthAt_w (impl_DepthAt PM.std) ds k = some r at h
  unfold impl_DepthAt_w at h
  split at h
  · exact PM.pfun_ok (E := impl_DepthAt_E PM.std (impl_opens PM.std)) (L := fun n => impl_DepthAt_L PM.std (impl_opens PM.std) n) (N := PM.std.fuel) cx_ok (.cons impl_opens_g .nil) mixed .nil impl_DepthAt_fn (by kernel_rfl) ⟨rfl, fun cur σ K => by
      dsimp only [impl_DepthAt_L]
      split <;> rfl, fun n cur σ K r h => by
      dsimp only [impl_DepthAt_L] at h
      split at h
      · exact (impl_DepthAt_l0_ok PM.std (impl_opens PM.std) n _ _ _ _ _ K).symm.trans h
      · cases h⟩
      ((impl_DepthAt_ok PM.std (impl_opens PM.std) _ _ k).trans h)
  · cases h

abbrev impl_CodeOk_T := (List (List Int)) → ((Bool) → PM.R) → PM.R
noncomputable def impl_CodeOk_w (c : impl_CodeOk_T) (ds : List PM.V) (k : PM.V → PM.R) : PM.R :=
  match ds with
  | [.arr (.vecs 312 4 code)] => c code (fun r0 => k (.bool r0))
  | _ => none
noncomputable def impl_CodeOk_l0 (A : PM.Prims) (c_283 : impl_OpOk_T) (c_284 : impl_isBalanced_T) (c_285 : impl_DepthAt_T) : Nat → (List (List Int)) → (Int) → (List (List Int)) → (Int) → (Int) → ((Bool) → PM.R) → (Unit → PM.R) → PM.R
  | 0, _, _, _, _, _, _, _ => none
  | n + 1, code2, forks3, t144, t155, t166, kret_0, kx0_0 =>
    bif (A.lt t166 t155) then
      bif (A.inb t166 (A.vlen t144)) then
        c_283 (A.vget t144 t166 0) (A.vget t144 t166 1) (A.vget t144 t166 2) (A.vget t144 t166 3) (fun r7 =>
          bif (A.not r7) then
            kret_0 false
          else
            bif (A.eq (A.vget t144 t166 0) 7) then
              bif (A.lt (A.vlen code2) (A.add .i64 (A.add .i64 t166 1) (A.vget t144 t166 2))) then
                kret_0 false
              else
                bif (A.subb (A.add .i64 t166 1) (A.add .i64 (A.add .i64 t166 1) (A.vget t144 t166 2)) (A.vlen code2)) then
                  c_284 (A.vsub code2 (A.add .i64 t166 1) (A.add .i64 (A.add .i64 t166 1) (A.vget t144 t166 2))) (fun r9 =>
                    bif (A.not r9) then
                      kret_0 false
                    else
                      impl_CodeOk_l0 A c_283 c_284 c_285 n code2 forks3 t144 t155 (A.add .i64 t166 1) kret_0 kx0_0)
                else
                  none
            else
              bif (A.eq (A.vget t144 t166 0) 11) then
                bif (A.lt 1 (A.add .i64 forks3 1)) then
                  kret_0 false
                else
                  c_285 code2 t166 (fun r10 =>
                    bif (A.not (A.eq r10 0)) then
                      kret_0 false
                    else
                      impl_CodeOk_l0 A c_283 c_284 c_285 n code2 (A.add .i64 forks3 1) t144 t155 (A.add .i64 t166 1) kret_0 kx0_0)
              else
                impl_CodeOk_l0 A c_283 c_284 c_285 n code2 forks3 t144 t155 (A.add .i64 t166 1) kret_0 kx0_0)
      else
        none
    else
      kx0_0 ()
noncomputable def impl_CodeOk_f (A : PM.Prims) (c_283 : impl_OpOk_T) (c_284 : impl_isBalanced_T) (c_285 : impl_DepthAt_T) (code : List (List Int)) (k : (Bool) → PM.R) : PM.R :=
  bif (A.lt 24 (A.vlen code)) then
    k false
  else
    c_284 code (fun r1 =>
      bif (A.not r1) then
        k false
      else
        impl_CodeOk_l0 A c_283 c_284 c_285 A.fuel code 0 code (A.vlen code) 0 (fun t2811 =>
          k t2811) (fun _ =>
          k true))
noncomputable def impl_CodeOk (A : PM.Prims) : impl_CodeOk_T := impl_CodeOk_f A (impl_OpOk A) (impl_isBalanced A) (impl_DepthAt A)
noncomputable def impl_CodeOk_L (A : PM.Prims) (c_283 : impl_OpOk_T) (c_284 : impl_isBalanced_T) (c_285 : impl_DepthAt_T) (n : Nat) : PM.Lam := fun cur σ K =>
  match cur, σ, K with
  | 0, ⟨[(0, .arr (.vecs 312 4 code2)), (3, .int .i64 forks3), (14, .arr (.vecs 312 4 t144)), (15, .int .i64 t155), (16, .int .i64 t166)], []⟩, K => impl_CodeOk_l0 A c_283 c_284 c_285 n code2 forks3 t144 t155 t166 (fun t28 => K .ret ⟨[(2, .bool t28)], []⟩) (fun _ => K (.exit 0) ⟨[], []⟩)
  | _, _, _ => none
noncomputable def impl_CodeOk_E (A : PM.Prims) (c_283 : impl_OpOk_T) (c_284 : impl_isBalanced_T) (c_285 : impl_DepthAt_T) : PM.Env := ⟨[(283, ⟨[], impl_OpOk_w c_283, none⟩), (284, ⟨[], impl_isBalanced_w c_284, none⟩), (285, ⟨[], impl_DepthAt_w c_285, none⟩)], [], [(0, [0, 3, 14, 15, 16], [2])], [(0, [0]), (1, [0, 13]), (2, [2]), (3, [0, 3]), (4, [0, 3, 14, 15, 16]), (5, [0, 3, 14, 15, 16, 17]), (6, [0, 3, 4, 5, 14, 15, 16]), (7, [0, 3, 4, 5, 14, 15, 16, 23]), (8, [2]), (9, [0, 3, 4, 5, 14, 15, 16, 25]), (10, [0, 3, 4, 5, 14, 15, 16, 25, 26]), (11, [0, 3, 14, 15, 16, 48]), (12, [2]), (13, [0, 3, 4, 14, 15, 16, 49]), (14, [0, 3, 4, 14, 15, 16]), (15, [0, 3, 14, 15, 16, 60]), (16, [2]), (17, [0, 3, 14, 15, 16]), (18, [2])], impl_CodeOk_L A c_283 c_284 c_285 A.fuel⟩
theorem impl_CodeOk_l0_ok (A : PM.Prims) (c_283 : impl_OpOk_T) (c_284 : impl_isBalanced_T) (c_285 : impl_DepthAt_T) (n : Nat) (code2 : List (List Int)) (forks3 : Int) (t144 : List (List Int)) (t155 : Int) (t166 : Int) (K : Go.Exit → PM.S → PM.R) : impl_CodeOk_L A c_283 c_284 c_285 (n + 1) 0 ⟨[(0, .arr (.vecs 312 4 code2)), (3, .int .i64 forks3), (14, .arr (.vecs 312 4 t144)), (15, .int .i64 t155), (16, .int .i64 t166)], []⟩ K = PM.roundF A cx (PM.runD A cx (impl_CodeOk_E A c_283 c_284 c_285).inl (impl_CodeOk_E A c_283 c_284 c_285).Γ 3) (impl_CodeOk_E A c_283 c_284 c_285) (impl_CodeOk_L A c_283 c_284 c_285 n) 0 Go.Proofs.Try.f228 ⟨[(0, .arr (.vecs 312 4 code2)), (3, .int .i64 forks3), (14, .arr (.vecs 312 4 t144)), (15, .int .i64 t155), (16, .int .i64 t166)], []⟩ K := by kernel_rfl
theorem impl_CodeOk_ok (A : PM.Prims) (c_283 : impl_OpOk_T) (c_284 : impl_isBalanced_T) (c_285 : impl_DepthAt_T) (code : List (List Int)) (k : PM.V → PM.R) : PM.pfun A cx [] (impl_CodeOk_E A c_283 c_284 c_285) Go.Proofs.Try.f228 [.arr (.vecs 312 4 code)] k = impl_CodeOk_f A c_283 c_284 c_285 code (fun r0 => k (.bool r0)) := by kernel_rfl

theorem impl_CodeOk_fn : PM.FnIs Try.prog 228 Try.f228 := .of Try.func228 (by kernel_rfl) (by kernel_rfl)
theorem impl_CodeOk_g : PM.GOk Try.prog cx 228 ⟨[], impl_CodeOk_w (impl_CodeOk PM.std), none⟩ := by
  refine ⟨impl_CodeOk_fn.enter, fun _ ds k r h => ?_, fun hm => absurd rfl hm, fun _ e => (by cases e)⟩
  change impl_CodeOk_w (impl_CodeOk PM.std) ds k = some r at h
  unfold impl_CodeOk_w at h
  split at h
  · exact PM.pfun_ok (E := impl_CodeOk_E PM.std (impl_OpOk PM.std) (impl_isBalanced PM.std) (impl_DepthAt PM.std)) (L := fun n => impl_CodeOk_L PM.std (impl_OpOk PM.std) (impl_isBalanced PM.std) (impl_DepthAt PM.std) n) (N := PM.std.fuel) cx_ok (.cons impl_OpOk_g (.cons impl_isBalanced_g (.cons impl_DepthAt_g .nil))) mixed .nil impl_CodeOk_fn (by kernel_rfl) ⟨rfl, fun cur σ K => by
      dsimp only [impl_CodeOk_L]
      split <;> rfl, fun n cur σ K r h => by
      dsimp only [impl_CodeOk_L] at h
      split at h
      · exact (impl_CodeOk_l0_ok PM.std (impl_OpOk PM.std) (impl_isBalanced PM.std) (impl_DepthAt PM.std) n _ _ _ _ _ K).symm.trans h
      · cases h⟩
      ((impl_CodeOk_ok PM.std (impl_OpOk PM.std) (impl_isBalanced PM.std) (impl_DepthAt PM.std) _ k).trans h)
  · cases h

abbrev impl_KidOk_T := (List (List Int)) → ((Bool) → PM.R) → PM.R
noncomputable def impl_KidOk_w (c : impl_KidOk_T) (ds : List PM.V) (k : PM.V → PM.R) : PM.R :=
  match ds with
  | [.arr (.vecs 312 4 code)] => c code (fun r0 => k (.bool r0))
  | _ => none
noncomputable def impl_KidOk_l0 (A : PM.Prims) (c_227 : impl_Touches_T) (c_228 : impl_CodeOk_T) : Nat → (List (List Int)) → (List (List Int)) → (Int) → (Int) → ((Bool) → PM.R) → ((List (List Int)) → PM.R) → PM.R
  | 0, _, _, _, _, _, _ => none
  | n + 1, code1, t52, t63, t74, kret_0, kx0_0 =>
    bif (A.lt t74 t63) then
      bif (A.inb t74 (A.vlen t52)) then
        bif (A.eq (A.vget t52 t74 0) 11) then
          kret_0 false
        else
          c_227 (A.vget t52 t74 0) (A.vget t52 t74 1) (A.vget t52 t74 2) (A.vget t52 t74 3) (fun r6 =>
            bif (A.eq r6 2) then
              kret_0 false
            else
              impl_KidOk_l0 A c_227 c_228 n code1 t52 t63 (A.add .i64 t74 1) kret_0 kx0_0)
      else
        none
    else
      kx0_0 code1
noncomputable def impl_KidOk_f (A : PM.Prims) (c_227 : impl_Touches_T) (c_228 : impl_CodeOk_T) (code : List (List Int)) (k : (Bool) → PM.R) : PM.R :=
  impl_KidOk_l0 A c_227 c_228 A.fuel code code (A.vlen code) 0 (fun t258 =>
    k t258) (fun code79 =>
    c_228 code79 (fun r10 =>
      k r10))
noncomputable def impl_KidOk (A : PM.Prims) : impl_KidOk_T := impl_KidOk_f A (impl_Touches A) (impl_CodeOk A)
noncomputable def impl_KidOk_L (A : PM.Prims) (c_227 : impl_Touches_T) (c_228 : impl_CodeOk_T) (n : Nat) : PM.Lam := fun cur σ K =>
  match cur, σ, K with
  | 0, ⟨[(0, .arr (.vecs 312 4 code1)), (5, .arr (.vecs 312 4 t52)), (6, .int .i64 t63), (7, .int .i64 t74)], []⟩, K => impl_KidOk_l0 A c_227 c_228 n code1 t52 t63 t74 (fun t25 => K .ret ⟨[(2, .bool t25)], []⟩) (fun code7 => K (.exit 0) ⟨[(0, .arr (.vecs 312 4 code7))], []⟩)
  | _, _, _ => none
noncomputable def impl_KidOk_E (A : PM.Prims) (c_227 : impl_Touches_T) (c_228 : impl_CodeOk_T) : PM.Env := ⟨[(227, ⟨[], impl_Touches_w c_227, none⟩), (228, ⟨[], impl_CodeOk_w c_228, none⟩)], [], [(0, [0, 5, 6, 7], [0, 2])], [(0, [0]), (1, [0, 5, 6, 7]), (2, [0, 5, 6, 7, 8]), (3, [0, 4, 5, 6, 7]), (4, [0, 5, 6, 7, 18]), (5, [2]), (6, [0, 5, 6, 7]), (7, [2])], impl_KidOk_L A c_227 c_228 A.fuel⟩
theorem impl_KidOk_l0_ok (A : PM.Prims) (c_227 : impl_Touches_T) (c_228 : impl_CodeOk_T) (n : Nat) (code1 : List (List Int)) (t52 : List (List Int)) (t63 : Int) (t74 : Int) (K : Go.Exit → PM.S → PM.R) : impl_KidOk_L A c_227 c_228 (n + 1) 0 ⟨[(0, .arr (.vecs 312 4 code1)), (5, .arr (.vecs 312 4 t52)), (6, .int .i64 t63), (7, .int .i64 t74)], []⟩ K = PM.roundF A cx (PM.runD A cx (impl_KidOk_E A c_227 c_228).inl (impl_KidOk_E A c_227 c_228).Γ 3) (impl_KidOk_E A c_227 c_228) (impl_KidOk_L A c_227 c_228 n) 0 Go.Proofs.Try.f166 ⟨[(0, .arr (.vecs 312 4 code1)), (5, .arr (.vecs 312 4 t52)), (6, .int .i64 t63), (7, .int .i64 t74)], []⟩ K := by kernel_rfl
theorem impl_KidOk_ok (A : PM.Prims) (c_227 : impl_Touches_T) (c_228 : impl_CodeOk_T) (code : List (List Int)) (k : PM.V → PM.R) : PM.pfun A cx [] (impl_KidOk_E A c_227 c_228) Go.Proofs.Try.f166 [.arr (.vecs 312 4 code)] k = impl_KidOk_f A c_227 c_228 code (fun r0 => k (.bool r0)) := by kernel_rfl

theorem impl_KidOk_fn : PM.FnIs Try.prog 166 Try.f166 := .of Try.func166 (by kernel_rfl) (by kernel_rfl)
theorem impl_KidOk_g : PM.GOk Try.prog cx 166 ⟨[], impl_KidOk_w (impl_KidOk PM.std), none⟩ := by
  refine ⟨impl_KidOk_fn.enter, fun _ ds k r h => ?_, fun hm => absurd rfl hm, fun _ e => (by cases e)⟩
  change impl_KidOk_w (impl_KidOk PM.std) ds k = some r at h
  unfold impl_KidOk_w at h
  split at h
  · exact PM.pfun_ok (E := impl_KidOk_E PM.std (impl_Touches PM.std) (impl_CodeOk PM.std)) (L := fun n => impl_KidOk_L PM.std (impl_Touches PM.std) (impl_CodeOk PM.std) n) (N := PM.std.fuel) cx_ok (.cons impl_Touches_g (.cons impl_CodeOk_g .nil)) mixed .nil impl_KidOk_fn (by kernel_rfl) ⟨rfl, fun cur σ K => by
      dsimp only [impl_KidOk_L]
      split <;> rfl, fun n cur σ K r h => by
      dsimp only [impl_KidOk_L] at h
      split at h
      · exact (impl_KidOk_l0_ok PM.std (impl_Touches PM.std) (impl_CodeOk PM.std) n _ _ _ _ K).symm.trans h
      · cases h⟩
      ((impl_KidOk_ok PM.std (impl_Touches PM.std) (impl_CodeOk PM.std) _ k).trans h)
  · cases h

abbrev laws_eqOp_T := (Int) → (Int) → (Int) → (Int) → (Int) → (Int) → (Int) → (Int) → ((Bool) → PM.R) → PM.R
noncomputable def laws_eqOp_w (c : laws_eqOp_T) (ds : List PM.V) (k : PM.V → PM.R) : PM.R :=
  match ds with
  | [.agg [.int .i64 a_Kind, .int .i64 a_A, .int .i64 a_B, .int .i64 a_C], .agg [.int .i64 b_Kind, .int .i64 b_A, .int .i64 b_B, .int .i64 b_C]] => c a_Kind a_A a_B a_C b_Kind b_A b_B b_C (fun r0 => k (.bool r0))
  | _ => none
noncomputable def laws_eqOp_f (A : PM.Prims) (a_Kind : Int) (a_A : Int) (a_B : Int) (a_C : Int) (b_Kind : Int) (b_A : Int) (b_B : Int) (b_C : Int) (k : (Bool) → PM.R) : PM.R :=
  bif (A.not (A.eq a_Kind b_Kind)) then
    k false
  else
    bif (A.not (A.eq a_A b_A)) then
      k false
    else
      bif (A.not (A.eq a_B b_B)) then
        k false
      else
        bif (A.not (A.eq a_C b_C)) then
          k false
        else
          k true
noncomputable def laws_eqOp (A : PM.Prims) : laws_eqOp_T := laws_eqOp_f A
noncomputable def laws_eqOp_L (A : PM.Prims) (n : Nat) : PM.Lam := fun cur σ K =>
  match cur, σ, K with
  | _, _, _ => none
noncomputable def laws_eqOp_E (A : PM.Prims) : PM.Env := ⟨[], [], [], [(0, [2, 3]), (1, [2, 3, 9]), (2, [4]), (3, [2, 3, 14]), (4, [4]), (5, [2, 3, 19]), (6, [4]), (7, [24]), (8, [4]), (9, [4])], laws_eqOp_L A A.fuel⟩
theorem laws_eqOp_ok (A : PM.Prims) (a_Kind : Int) (a_A : Int) (a_B : Int) (a_C : Int) (b_Kind : Int) (b_A : Int) (b_B : Int) (b_C : Int) (k : PM.V → PM.R) : PM.pfun A cx [] (laws_eqOp_E A) Go.Proofs.Try.f320 [.agg [.int .i64 a_Kind, .int .i64 a_A, .int .i64 a_B, .int .i64 a_C], .agg [.int .i64 b_Kind, .int .i64 b_A, .int .i64 b_B, .int .i64 b_C]] k = laws_eqOp_f A a_Kind a_A a_B a_C b_Kind b_A b_B b_C (fun r0 => k (.bool r0)) := by kernel_rfl

theorem laws_eqOp_fn : PM.FnIs Try.prog 320 Try.f320 := .of Try.func320 (by kernel_rfl) (by kernel_rfl)
theorem laws_eqOp_g : PM.GOk Try.prog cx 320 ⟨[], laws_eqOp_w (laws_eqOp PM.std), none⟩ := by
  refine ⟨laws_eqOp_fn.enter, fun _ ds k r h => ?_, fun hm => absurd rfl hm, fun _ e => (by cases e)⟩
  change laws_eqOp_w (laws_eqOp PM.std) ds k = some r at h
  unfold laws_eqOp_w at h
  split at h
  · exact PM.pfun_ok (E := laws_eqOp_E PM.std) (L := fun n => laws_eqOp_L PM.std n) (N := PM.std.fuel) cx_ok .nil mixed .nil laws_eqOp_fn (by kernel_rfl) ⟨rfl, fun _ _ _ => rfl, fun n cur σ K r h => by cases h⟩
      ((laws_eqOp_ok PM.std _ _ _ _ _ _ _ _ k).trans h)
  · cases h

abbrev laws_eqOpS_T := (List (List Int)) → (List (List Int)) → ((Bool) → PM.R) → PM.R
noncomputable def laws_eqOpS_w (c : laws_eqOpS_T) (ds : List PM.V) (k : PM.V → PM.R) : PM.R :=
  match ds with
  | [.arr (.vecs 312 4 a), .arr (.vecs 312 4 b)] => c a b (fun r0 => k (.bool r0))
  | _ => none
noncomputable def laws_eqOpS_l0 (A : PM.Prims) (c_320 : laws_eqOp_T) : Nat → (List (List Int)) → (List (List Int)) → (Int) → ((Bool) → PM.R) → (Unit → PM.R) → PM.R
  | 0, _, _, _, _, _ => none
  | n + 1, a1, b2, i3, kret_0, kx0_0 =>
    bif (A.lt i3 (A.vlen a1)) then
      bif (A.inb i3 (A.vlen a1)) then
        bif (A.inb i3 (A.vlen b2)) then
          c_320 (A.vget a1 i3 0) (A.vget a1 i3 1) (A.vget a1 i3 2) (A.vget a1 i3 3) (A.vget b2 i3 0) (A.vget b2 i3 1) (A.vget b2 i3 2) (A.vget b2 i3 3) (fun r4 =>
            bif (A.not r4) then
              kret_0 false
            else
              laws_eqOpS_l0 A c_320 n a1 b2 (A.add .i64 i3 1) kret_0 kx0_0)
        else
          none
      else
        none
    else
      kx0_0 ()
noncomputable def laws_eqOpS_f (A : PM.Prims) (c_320 : laws_eqOp_T) (a : List (List Int)) (b : List (List Int)) (k : (Bool) → PM.R) : PM.R :=
  bif (A.not (A.eq (A.vlen a) (A.vlen b))) then
    k false
  else
    laws_eqOpS_l0 A c_320 A.fuel a b 0 (fun t456 =>
      k t456) (fun _ =>
      k true)
noncomputable def laws_eqOpS (A : PM.Prims) : laws_eqOpS_T := laws_eqOpS_f A (laws_eqOp A)
noncomputable def laws_eqOpS_L (A : PM.Prims) (c_320 : laws_eqOp_T) (n : Nat) : PM.Lam := fun cur σ K =>
  match cur, σ, K with
  | 0, ⟨[(0, .arr (.vecs 312 4 a1)), (1, .arr (.vecs 312 4 b2)), (5, .int .i64 i3)], []⟩, K => laws_eqOpS_l0 A c_320 n a1 b2 i3 (fun t45 => K .ret ⟨[(4, .bool t45)], []⟩) (fun _ => K (.exit 0) ⟨[], []⟩)
  | _, _, _ => none
noncomputable def laws_eqOpS_E (A : PM.Prims) (c_320 : laws_eqOp_T) : PM.Env := ⟨[(320, ⟨[], laws_eqOp_w c_320, none⟩)], [], [(0, [0, 1, 5], [4])], [(0, [0, 1]), (1, [0, 1, 10]), (2, [4]), (3, [0, 1, 5]), (4, [0, 1, 5, 14]), (5, [0, 1, 5]), (6, [0, 1, 5, 26]), (7, [4]), (8, [4])], laws_eqOpS_L A c_320 A.fuel⟩
theorem laws_eqOpS_l0_ok (A : PM.Prims) (c_320 : laws_eqOp_T) (n : Nat) (a1 : List (List Int)) (b2 : List (List Int)) (i3 : Int) (K : Go.Exit → PM.S → PM.R) : laws_eqOpS_L A c_320 (n + 1) 0 ⟨[(0, .arr (.vecs 312 4 a1)), (1, .arr (.vecs 312 4 b2)), (5, .int .i64 i3)], []⟩ K = PM.roundF A cx (PM.runD A cx (laws_eqOpS_E A c_320).inl (laws_eqOpS_E A c_320).Γ 3) (laws_eqOpS_E A c_320) (laws_eqOpS_L A c_320 n) 0 Go.Proofs.Try.f286 ⟨[(0, .arr (.vecs 312 4 a1)), (1, .arr (.vecs 312 4 b2)), (5, .int .i64 i3)], []⟩ K := by kernel_rfl
theorem laws_eqOpS_ok (A : PM.Prims) (c_320 : laws_eqOp_T) (a : List (List Int)) (b : List (List Int)) (k : PM.V → PM.R) : PM.pfun A cx [] (laws_eqOpS_E A c_320) Go.Proofs.Try.f286 [.arr (.vecs 312 4 a), .arr (.vecs 312 4 b)] k = laws_eqOpS_f A c_320 a b (fun r0 => k (.bool r0)) := by kernel_rfl

theorem laws_eqOpS_fn : PM.FnIs Try.prog 286 Try.f286 := .of Try.func286 (by kernel_rfl) (by kernel_rfl)
theorem laws_eqOpS_g : PM.GOk Try.prog cx 286 ⟨[], laws_eqOpS_w (laws_eqOpS PM.std), none⟩ := by
  refine ⟨laws_eqOpS_fn.enter, fun _ ds k r h => ?_, fun hm => absurd rfl hm, fun _ e => (by cases e)⟩
  change laws_eqOpS_w (laws_eqOpS PM.std) ds k = some r at h
  unfold laws_eqOpS_w at h
  split at h
  · exact PM.pfun_ok (E := laws_eqOpS_E PM.std (laws_eqOp PM.std)) (L := fun n => laws_eqOpS_L PM.std (laws_eqOp PM.std) n) (N := PM.std.fuel) cx_ok (.cons laws_eqOp_g .nil) mixed .nil laws_eqOpS_fn (by kernel_rfl) ⟨rfl, fun cur σ K => by
      dsimp only [laws_eqOpS_L]
      split <;> rfl, fun n cur σ K r h => by
      dsimp only [laws_eqOpS_L] at h
      split at h
      · exact (laws_eqOpS_l0_ok PM.std (laws_eqOp PM.std) n _ _ _ K).symm.trans h
      · cases h⟩
      ((laws_eqOpS_ok PM.std (laws_eqOp PM.std) _ _ k).trans h)
  · cases h

abbrev laws_eqKid_T := (List (List Int)) → (List (List Int)) → ((Bool) → PM.R) → PM.R
noncomputable def laws_eqKid_w (c : laws_eqKid_T) (ds : List PM.V) (k : PM.V → PM.R) : PM.R :=
  match ds with
  | [.agg [.arr (.vecs 312 4 a_Code)], .agg [.arr (.vecs 312 4 b_Code)]] => c a_Code b_Code (fun r0 => k (.bool r0))
  | _ => none
noncomputable def laws_eqKid_f (A : PM.Prims) (c_286 : laws_eqOpS_T) (a_Code : List (List Int)) (b_Code : List (List Int)) (k : (Bool) → PM.R) : PM.R :=
  c_286 a_Code b_Code (fun r1 =>
    bif (A.not r1) then
      k false
    else
      k true)
noncomputable def laws_eqKid (A : PM.Prims) : laws_eqKid_T := laws_eqKid_f A (laws_eqOpS A)
noncomputable def laws_eqKid_L (A : PM.Prims) (c_286 : laws_eqOpS_T) (n : Nat) : PM.Lam := fun cur σ K =>
  match cur, σ, K with
  | _, _, _ => none
noncomputable def laws_eqKid_E (A : PM.Prims) (c_286 : laws_eqOpS_T) : PM.Env := ⟨[(286, ⟨[], laws_eqOpS_w c_286, none⟩)], [], [], [(0, [2, 3]), (1, [10]), (2, [4]), (3, [4])], laws_eqKid_L A c_286 A.fuel⟩
theorem laws_eqKid_ok (A : PM.Prims) (c_286 : laws_eqOpS_T) (a_Code : List (List Int)) (b_Code : List (List Int)) (k : PM.V → PM.R) : PM.pfun A cx [] (laws_eqKid_E A c_286) Go.Proofs.Try.f229 [.agg [.arr (.vecs 312 4 a_Code)], .agg [.arr (.vecs 312 4 b_Code)]] k = laws_eqKid_f A c_286 a_Code b_Code (fun r0 => k (.bool r0)) := by kernel_rfl

theorem laws_eqKid_fn : PM.FnIs Try.prog 229 Try.f229 := .of Try.func229 (by kernel_rfl) (by kernel_rfl)
theorem laws_eqKid_g : PM.GOk Try.prog cx 229 ⟨[], laws_eqKid_w (laws_eqKid PM.std), none⟩ := by
  refine ⟨laws_eqKid_fn.enter, fun _ ds k r h => ?_, fun hm => absurd rfl hm, fun _ e => (by cases e)⟩
  change laws_eqKid_w (laws_eqKid PM.std) ds k = some r at h
  unfold laws_eqKid_w at h
  split at h
  · exact PM.pfun_ok (E := laws_eqKid_E PM.std (laws_eqOpS PM.std)) (L := fun n => laws_eqKid_L PM.std (laws_eqOpS PM.std) n) (N := PM.std.fuel) cx_ok (.cons laws_eqOpS_g .nil) mixed .nil laws_eqKid_fn (by kernel_rfl) ⟨rfl, fun _ _ _ => rfl, fun n cur σ K r h => by cases h⟩
      ((laws_eqKid_ok PM.std (laws_eqOpS PM.std) _ _ k).trans h)
  · cases h

abbrev laws_eqKidS_T := (List (List PM.C)) → (List (List PM.C)) → ((Bool) → PM.R) → PM.R
noncomputable def laws_eqKidS_w (c : laws_eqKidS_T) (ds : List PM.V) (k : PM.V → PM.R) : PM.R :=
  match ds with
  | [.arr (.rows 233 a), .arr (.rows 233 b)] => c a b (fun r0 => k (.bool r0))
  | _ => none
noncomputable def laws_eqKidS_l0 (A : PM.Prims) (c_229 : laws_eqKid_T) : Nat → (List (List C)) → (List (List C)) → (Int) → ((Bool) → PM.R) → (Unit → PM.R) → PM.R
  | 0, _, _, _, _, _ => none
  | n + 1, a1, b2, i3, kret_0, kx0_0 =>
    bif (A.lt i3 (A.rlen a1)) then
      bif (A.inb i3 (A.rlen a1)) then
        bif (A.inb i3 (A.rlen b2)) then
          c_229 (A.rsv 4 a1 i3 0) (A.rsv 4 b2 i3 0) (fun r4 =>
            bif (A.not r4) then
              kret_0 false
            else
              laws_eqKidS_l0 A c_229 n a1 b2 (A.add .i64 i3 1) kret_0 kx0_0)
        else
          none
      else
        none
    else
      kx0_0 ()
noncomputable def laws_eqKidS_f (A : PM.Prims) (c_229 : laws_eqKid_T) (a : List (List PM.C)) (b : List (List PM.C)) (k : (Bool) → PM.R) : PM.R :=
  bif (A.not (A.eq (A.rlen a) (A.rlen b))) then
    k false
  else
    laws_eqKidS_l0 A c_229 A.fuel a b 0 (fun t456 =>
      k t456) (fun _ =>
      k true)
noncomputable def laws_eqKidS (A : PM.Prims) : laws_eqKidS_T := laws_eqKidS_f A (laws_eqKid A)
noncomputable def laws_eqKidS_L (A : PM.Prims) (c_229 : laws_eqKid_T) (n : Nat) : PM.Lam := fun cur σ K =>
  match cur, σ, K with
  | 0, ⟨[(0, .arr (.rows 233 a1)), (1, .arr (.rows 233 b2)), (5, .int .i64 i3)], []⟩, K => laws_eqKidS_l0 A c_229 n a1 b2 i3 (fun t45 => K .ret ⟨[(4, .bool t45)], []⟩) (fun _ => K (.exit 0) ⟨[], []⟩)
  | _, _, _ => none
noncomputable def laws_eqKidS_E (A : PM.Prims) (c_229 : laws_eqKid_T) : PM.Env := ⟨[(229, ⟨[], laws_eqKid_w c_229, none⟩)], [], [(0, [0, 1, 5], [4])], [(0, [0, 1]), (1, [0, 1, 10]), (2, [4]), (3, [0, 1, 5]), (4, [0, 1, 5, 14]), (5, [0, 1, 5]), (6, [0, 1, 5, 26]), (7, [4]), (8, [4])], laws_eqKidS_L A c_229 A.fuel⟩
theorem laws_eqKidS_l0_ok (A : PM.Prims) (c_229 : laws_eqKid_T) (n : Nat) (a1 : List (List C)) (b2 : List (List C)) (i3 : Int) (K : Go.Exit → PM.S → PM.R) : laws_eqKidS_L A c_229 (n + 1) 0 ⟨[(0, .arr (.rows 233 a1)), (1, .arr (.rows 233 b2)), (5, .int .i64 i3)], []⟩ K = PM.roundF A cx (PM.runD A cx (laws_eqKidS_E A c_229).inl (laws_eqKidS_E A c_229).Γ 3) (laws_eqKidS_E A c_229) (laws_eqKidS_L A c_229 n) 0 Go.Proofs.Try.f167 ⟨[(0, .arr (.rows 233 a1)), (1, .arr (.rows 233 b2)), (5, .int .i64 i3)], []⟩ K := by kernel_rfl
theorem laws_eqKidS_ok (A : PM.Prims) (c_229 : laws_eqKid_T) (a : List (List PM.C)) (b : List (List PM.C)) (k : PM.V → PM.R) : PM.pfun A cx [] (laws_eqKidS_E A c_229) Go.Proofs.Try.f167 [.arr (.rows 233 a), .arr (.rows 233 b)] k = laws_eqKidS_f A c_229 a b (fun r0 => k (.bool r0)) := by kernel_rfl

theorem laws_eqKidS_fn : PM.FnIs Try.prog 167 Try.f167 := .of Try.func167 (by kernel_rfl) (by kernel_rfl)
theorem laws_eqKidS_g : PM.GOk Try.prog cx 167 ⟨[], laws_eqKidS_w (laws_eqKidS PM.std), none⟩ := by
  refine ⟨laws_eqKidS_fn.enter, fun _ ds k r h => ?_, fun hm => absurd rfl hm, fun _ e => (by cases e)⟩
  change laws_eqKidS_w (laws_eqKidS PM.std) ds k = some r at h
  unfold laws_eqKidS_w at h
  split at h
  · exact PM.pfun_ok (E := laws_eqKidS_E PM.std (laws_eqKid PM.std)) (L := fun n => laws_eqKidS_L PM.std (laws_eqKid PM.std) n) (N := PM.std.fuel) cx_ok (.cons laws_eqKid_g .nil) mixed .nil laws_eqKidS_fn (by kernel_rfl) ⟨rfl, fun cur σ K => by
      dsimp only [laws_eqKidS_L]
      split <;> rfl, fun n cur σ K r h => by
      dsimp only [laws_eqKidS_L] at h
      split at h
      · exact (laws_eqKidS_l0_ok PM.std (laws_eqKid PM.std) n _ _ _ K).symm.trans h
      · cases h⟩
      ((laws_eqKidS_ok PM.std (laws_eqKid PM.std) _ _ k).trans h)
  · cases h

abbrev laws_szThings_T := (List Int) → (List Int) → (Int) → (Int) → ((Int) → PM.R) → PM.R
noncomputable def laws_szThings_w (c : laws_szThings_T) (ds : List PM.V) (k : PM.V → PM.R) : PM.R :=
  match ds with
  | [.agg [.arr (.ints 3 .i64 a_Cells), .arr (.ints 3 .i64 a_Map), .int .i64 a_Count], .int .i64 left] => c a_Cells a_Map a_Count left (fun r0 => k (.int .i64 r0))
  | _ => none
noncomputable def laws_szThings_f (A : PM.Prims) (c_146 : laws_szIntS_T) (a_Cells : List Int) (a_Map : List Int) (a_Count : Int) (left : Int) (k : (Int) → PM.R) : PM.R :=
  c_146 a_Cells left (fun r1 =>
    bif (A.lt r1 0) then
      k (-1)
    else
      c_146 a_Map r1 (fun r2 =>
        bif (A.lt r2 0) then
          k (-1)
        else
          k r2))
noncomputable def laws_szThings (A : PM.Prims) : laws_szThings_T := laws_szThings_f A (laws_szIntS A)
noncomputable def laws_szThings_L (A : PM.Prims) (c_146 : laws_szIntS_T) (n : Nat) : PM.Lam := fun cur σ K =>
  match cur, σ, K with
  | _, _, _ => none
noncomputable def laws_szThings_E (A : PM.Prims) (c_146 : laws_szIntS_T) : PM.Env := ⟨[(146, ⟨[], laws_szIntS_w c_146, none⟩)], [], [], [(0, [1, 2]), (1, [1, 2]), (2, [1, 2, 10]), (3, [4]), (4, [1]), (5, [1, 16]), (6, [4]), (7, [4])], laws_szThings_L A c_146 A.fuel⟩
theorem laws_szThings_ok (A : PM.Prims) (c_146 : laws_szIntS_T) (a_Cells : List Int) (a_Map : List Int) (a_Count : Int) (left : Int) (k : PM.V → PM.R) : PM.pfun A cx [] (laws_szThings_E A c_146) Go.Proofs.Try.f169 [.agg [.arr (.ints 3 .i64 a_Cells), .arr (.ints 3 .i64 a_Map), .int .i64 a_Count], .int .i64 left] k = laws_szThings_f A c_146 a_Cells a_Map a_Count left (fun r0 => k (.int .i64 r0)) := by kernel_rfl

theorem laws_szThings_fn : PM.FnIs Try.prog 169 Try.f169 := .of Try.func169 (by kernel_rfl) (by kernel_rfl)
theorem laws_szThings_g : PM.GOk Try.prog cx 169 ⟨[], laws_szThings_w (laws_szThings PM.std), none⟩ := by
  refine ⟨laws_szThings_fn.enter, fun _ ds k r h => ?_, fun hm => absurd rfl hm, fun _ e => (by cases e)⟩
  change laws_szThings_w (laws_szThings PM.std) ds k = some r at h
  unfold laws_szThings_w at h
  split at h
  · exact PM.pfun_ok (E := laws_szThings_E PM.std (laws_szIntS PM.std)) (L := fun n => laws_szThings_L PM.std (laws_szIntS PM.std) n) (N := PM.std.fuel) cx_ok (.cons laws_szIntS_g .nil) mixed .nil laws_szThings_fn (by kernel_rfl) ⟨rfl, fun _ _ _ => rfl, fun n cur σ K r h => by cases h⟩
      ((laws_szThings_ok PM.std (laws_szIntS PM.std) _ _ _ _ k).trans h)
  · cases h

abbrev laws_szProg_T := (List (List Int)) → (List (List PM.C)) → (Int) → ((Int) → PM.R) → PM.R
noncomputable def laws_szProg_w (c : laws_szProg_T) (ds : List PM.V) (k : PM.V → PM.R) : PM.R :=
  match ds with
  | [.agg [.arr (.vecs 409 4 a_Code), .arr (.rows 309 a_Kids)], .int .i64 left] => c a_Code a_Kids left (fun r0 => k (.int .i64 r0))
  | _ => none
noncomputable def laws_szProg_f (A : PM.Prims) (c_279 : laws_szOpS_T) (c_162 : laws_szKidS_T) (a_Code : List (List Int)) (a_Kids : List (List PM.C)) (left : Int) (k : (Int) → PM.R) : PM.R :=
  c_279 a_Code left (fun r1 =>
    bif (A.lt r1 0) then
      k (-1)
    else
      c_162 a_Kids r1 (fun r2 =>
        bif (A.lt r2 0) then
          k (-1)
        else
          k r2))
noncomputable def laws_szProg (A : PM.Prims) : laws_szProg_T := laws_szProg_f A (laws_szOpS A) (laws_szKidS A)
noncomputable def laws_szProg_L (A : PM.Prims) (c_279 : laws_szOpS_T) (c_162 : laws_szKidS_T) (n : Nat) : PM.Lam := fun cur σ K =>
  match cur, σ, K with
  | _, _, _ => none
noncomputable def laws_szProg_E (A : PM.Prims) (c_279 : laws_szOpS_T) (c_162 : laws_szKidS_T) : PM.Env := ⟨[(279, ⟨[], laws_szOpS_w c_279, none⟩), (162, ⟨[], laws_szKidS_w c_162, none⟩)], [], [], [(0, [1, 2]), (1, [1, 2]), (2, [1, 2, 10]), (3, [4]), (4, [1]), (5, [1, 16]), (6, [4]), (7, [4])], laws_szProg_L A c_279 c_162 A.fuel⟩
theorem laws_szProg_ok (A : PM.Prims) (c_279 : laws_szOpS_T) (c_162 : laws_szKidS_T) (a_Code : List (List Int)) (a_Kids : List (List PM.C)) (left : Int) (k : PM.V → PM.R) : PM.pfun A cx [] (laws_szProg_E A c_279 c_162) Go.Proofs.Try.f230 [.agg [.arr (.vecs 409 4 a_Code), .arr (.rows 309 a_Kids)], .int .i64 left] k = laws_szProg_f A c_279 c_162 a_Code a_Kids left (fun r0 => k (.int .i64 r0)) := by kernel_rfl

theorem laws_szProg_fn : PM.FnIs Try.prog 230 Try.f230 := .of Try.func230 (by kernel_rfl) (by kernel_rfl)
theorem laws_szProg_g : PM.GOk Try.prog cx 230 ⟨[], laws_szProg_w (laws_szProg PM.std), none⟩ := by
  refine ⟨laws_szProg_fn.enter, fun _ ds k r h => ?_, fun hm => absurd rfl hm, fun _ e => (by cases e)⟩
  change laws_szProg_w (laws_szProg PM.std) ds k = some r at h
  unfold laws_szProg_w at h
  split at h
  · exact PM.pfun_ok (E := laws_szProg_E PM.std (laws_szOpS PM.std) (laws_szKidS PM.std)) (L := fun n => laws_szProg_L PM.std (laws_szOpS PM.std) (laws_szKidS PM.std) n) (N := PM.std.fuel) cx_ok (.cons laws_szOpS_g (.cons laws_szKidS_g .nil)) mixed .nil laws_szProg_fn (by kernel_rfl) ⟨rfl, fun _ _ _ => rfl, fun n cur σ K r h => by cases h⟩
      ((laws_szProg_ok PM.std (laws_szOpS PM.std) (laws_szKidS PM.std) _ _ _ k).trans h)
  · cases h

abbrev laws_szProgS_T := (List (List PM.C)) → (Int) → ((Int) → PM.R) → PM.R
noncomputable def laws_szProgS_w (c : laws_szProgS_T) (ds : List PM.V) (k : PM.V → PM.R) : PM.R :=
  match ds with
  | [.arr (.rows 317 a), .int .i64 left] => c a left (fun r0 => k (.int .i64 r0))
  | _ => none
noncomputable def laws_szProgS_l0 (A : PM.Prims) (c_230 : laws_szProg_T) : Nat → (List (List C)) → (Int) → (Int) → ((Int) → PM.R) → ((Int) → PM.R) → PM.R
  | 0, _, _, _, _, _ => none
  | n + 1, a1, left2, i3, kret_0, kx0_0 =>
    bif (A.lt i3 (A.rlen a1)) then
      bif (A.inb i3 (A.rlen a1)) then
        c_230 (A.rsv 4 a1 i3 0) (A.rsr a1 i3 1) left2 (fun r4 =>
          bif (A.lt r4 0) then
            kret_0 (-1)
          else
            laws_szProgS_l0 A c_230 n a1 r4 (A.add .i64 i3 1) kret_0 kx0_0)
      else
        none
    else
      kx0_0 left2
noncomputable def laws_szProgS_f (A : PM.Prims) (c_230 : laws_szProg_T) (a : List (List PM.C)) (left : Int) (k : (Int) → PM.R) : PM.R :=
  bif (A.lt (A.sub .i64 left (A.rlen a)) 0) then
    k (-1)
  else
    laws_szProgS_l0 A c_230 A.fuel a (A.sub .i64 left (A.rlen a)) 0 (fun t457 =>
      k t457) (fun left68 =>
      k left68)
noncomputable def laws_szProgS (A : PM.Prims) : laws_szProgS_T := laws_szProgS_f A (laws_szProg A)
noncomputable def laws_szProgS_L (A : PM.Prims) (c_230 : laws_szProg_T) (n : Nat) : PM.Lam := fun cur σ K =>
  match cur, σ, K with
  | 0, ⟨[(0, .arr (.rows 317 a1)), (1, .int .i64 left2), (5, .int .i64 i3)], []⟩, K => laws_szProgS_l0 A c_230 n a1 left2 i3 (fun t45 => K .ret ⟨[(4, .int .i64 t45)], []⟩) (fun left6 => K (.exit 0) ⟨[(1, .int .i64 left6)], []⟩)
  | _, _, _ => none
noncomputable def laws_szProgS_E (A : PM.Prims) (c_230 : laws_szProg_T) : PM.Env := ⟨[(230, ⟨[], laws_szProg_w c_230, none⟩)], [], [(0, [0, 1, 5], [1, 4])], [(0, [0, 1]), (1, [0, 1]), (2, [0, 1, 11]), (3, [4]), (4, [0, 1, 5]), (5, [0, 1, 5, 15]), (6, [0, 1, 5]), (7, [0, 1, 5]), (8, [0, 1, 5, 25]), (9, [4]), (10, [4])], laws_szProgS_L A c_230 A.fuel⟩
theorem laws_szProgS_l0_ok (A : PM.Prims) (c_230 : laws_szProg_T) (n : Nat) (a1 : List (List C)) (left2 : Int) (i3 : Int) (K : Go.Exit → PM.S → PM.R) : laws_szProgS_L A c_230 (n + 1) 0 ⟨[(0, .arr (.rows 317 a1)), (1, .int .i64 left2), (5, .int .i64 i3)], []⟩ K = PM.roundF A cx (PM.runD A cx (laws_szProgS_E A c_230).inl (laws_szProgS_E A c_230).Γ 3) (laws_szProgS_E A c_230) (laws_szProgS_L A c_230 n) 0 Go.Proofs.Try.f170 ⟨[(0, .arr (.rows 317 a1)), (1, .int .i64 left2), (5, .int .i64 i3)], []⟩ K := by kernel_rfl
theorem laws_szProgS_ok (A : PM.Prims) (c_230 : laws_szProg_T) (a : List (List PM.C)) (left : Int) (k : PM.V → PM.R) : PM.pfun A cx [] (laws_szProgS_E A c_230) Go.Proofs.Try.f170 [.arr (.rows 317 a), .int .i64 left] k = laws_szProgS_f A c_230 a left (fun r0 => k (.int .i64 r0)) := by kernel_rfl

theorem laws_szProgS_fn : PM.FnIs Try.prog 170 Try.f170 := .of Try.func170 (by kernel_rfl) (by kernel_rfl)
theorem laws_szProgS_g : PM.GOk Try.prog cx 170 ⟨[], laws_szProgS_w (laws_szProgS PM.std), none⟩ := by
  refine ⟨laws_szProgS_fn.enter, fun _ ds k r h => ?_, fun hm => absurd rfl hm, fun _ e => (by cases e)⟩
  change laws_szProgS_w (laws_szProgS PM.std) ds k = some r at h
  unfold laws_szProgS_w at h
  split at h
  · exact PM.pfun_ok (E := laws_szProgS_E PM.std (laws_szProg PM.std)) (L := fun n => laws_szProgS_L PM.std (laws_szProg PM.std) n) (N := PM.std.fuel) cx_ok (.cons laws_szProg_g .nil) mixed .nil laws_szProgS_fn (by kernel_rfl) ⟨rfl, fun cur σ K => by
      dsimp only [laws_szProgS_L]
      split <;> rfl, fun n cur σ K r h => by
      dsimp only [laws_szProgS_L] at h
      split at h
      · exact (laws_szProgS_l0_ok PM.std (laws_szProg PM.std) n _ _ _ K).symm.trans h
      · cases h⟩
      ((laws_szProgS_ok PM.std (laws_szProg PM.std) _ _ k).trans h)
  · cases h

abbrev laws_szActS_T := (List (List Int)) → (Int) → ((Int) → PM.R) → PM.R
noncomputable def laws_szActS_w (c : laws_szActS_T) (ds : List PM.V) (k : PM.V → PM.R) : PM.R :=
  match ds with
  | [.arr (.vecs 322 3 a), .int .i64 left] => c a left (fun r0 => k (.int .i64 r0))
  | _ => none
noncomputable def laws_szActS_f (A : PM.Prims) (a : List (List Int)) (left : Int) (k : (Int) → PM.R) : PM.R :=
  bif (A.lt (A.sub .i64 left (A.vlen a)) 0) then
    k (-1)
  else
    k (A.sub .i64 left (A.vlen a))
noncomputable def laws_szActS (A : PM.Prims) : laws_szActS_T := laws_szActS_f A
noncomputable def laws_szActS_L (A : PM.Prims) (n : Nat) : PM.Lam := fun cur σ K =>
  match cur, σ, K with
  | _, _, _ => none
noncomputable def laws_szActS_E (A : PM.Prims) : PM.Env := ⟨[], [], [], [(0, [0, 1]), (1, [1]), (2, [1, 10]), (3, [4]), (4, [4])], laws_szActS_L A A.fuel⟩
theorem laws_szActS_ok (A : PM.Prims) (a : List (List Int)) (left : Int) (k : PM.V → PM.R) : PM.pfun A cx [] (laws_szActS_E A) Go.Proofs.Try.f171 [.arr (.vecs 322 3 a), .int .i64 left] k = laws_szActS_f A a left (fun r0 => k (.int .i64 r0)) := by kernel_rfl

theorem laws_szActS_fn : PM.FnIs Try.prog 171 Try.f171 := .of Try.func171 (by kernel_rfl) (by kernel_rfl)
theorem laws_szActS_g : PM.GOk Try.prog cx 171 ⟨[], laws_szActS_w (laws_szActS PM.std), none⟩ := by
  refine ⟨laws_szActS_fn.enter, fun _ ds k r h => ?_, fun hm => absurd rfl hm, fun _ e => (by cases e)⟩
  change laws_szActS_w (laws_szActS PM.std) ds k = some r at h
  unfold laws_szActS_w at h
  split at h
  · exact PM.pfun_ok (E := laws_szActS_E PM.std) (L := fun n => laws_szActS_L PM.std n) (N := PM.std.fuel) cx_ok .nil mixed .nil laws_szActS_fn (by kernel_rfl) ⟨rfl, fun _ _ _ => rfl, fun n cur σ K r h => by cases h⟩
      ((laws_szActS_ok PM.std _ _ k).trans h)
  · cases h

abbrev laws_szScript_T := (List Int) → (List Int) → (Int) → (List (List PM.C)) → (List (List Int)) → (Int) → ((Int) → PM.R) → PM.R
noncomputable def laws_szScript_w (c : laws_szScript_T) (ds : List PM.V) (k : PM.V → PM.R) : PM.R :=
  match ds with
  | [.agg [.arr (.ints 3 .i64 a_Start_Cells), .arr (.ints 3 .i64 a_Start_Map), .int .i64 a_Start_Count, .arr (.rows 317 a_Progs), .arr (.vecs 322 3 a_Acts)], .int .i64 left] => c a_Start_Cells a_Start_Map a_Start_Count a_Progs a_Acts left (fun r0 => k (.int .i64 r0))
  | _ => none
noncomputable def laws_szScript_f (A : PM.Prims) (c_169 : laws_szThings_T) (c_170 : laws_szProgS_T) (c_171 : laws_szActS_T) (a_Start_Cells : List Int) (a_Start_Map : List Int) (a_Start_Count : Int) (a_Progs : List (List PM.C)) (a_Acts : List (List Int)) (left : Int) (k : (Int) → PM.R) : PM.R :=
  c_169 a_Start_Cells a_Start_Map a_Start_Count left (fun r1 =>
    bif (A.lt r1 0) then
      k (-1)
    else
      c_170 a_Progs r1 (fun r2 =>
        bif (A.lt r2 0) then
          k (-1)
        else
          c_171 a_Acts r2 (fun r3 =>
            bif (A.lt r3 0) then
              k (-1)
            else
              k r3)))
noncomputable def laws_szScript (A : PM.Prims) : laws_szScript_T := laws_szScript_f A (laws_szThings A) (laws_szProgS A) (laws_szActS A)
noncomputable def laws_szScript_L (A : PM.Prims) (c_169 : laws_szThings_T) (c_170 : laws_szProgS_T) (c_171 : laws_szActS_T) (n : Nat) : PM.Lam := fun cur σ K =>
  match cur, σ, K with
  | _, _, _ => none
noncomputable def laws_szScript_E (A : PM.Prims) (c_169 : laws_szThings_T) (c_170 : laws_szProgS_T) (c_171 : laws_szActS_T) : PM.Env := ⟨[(169, ⟨[], laws_szThings_w c_169, none⟩), (170, ⟨[], laws_szProgS_w c_170, none⟩), (171, ⟨[], laws_szActS_w c_171, none⟩)], [], [], [(0, [1, 2]), (1, [1, 2]), (2, [1, 2, 10]), (3, [4]), (4, [1, 2]), (5, [1, 2, 16]), (6, [4]), (7, [1]), (8, [1, 22]), (9, [4]), (10, [4])], laws_szScript_L A c_169 c_170 c_171 A.fuel⟩
theorem laws_szScript_ok (A : PM.Prims) (c_169 : laws_szThings_T) (c_170 : laws_szProgS_T) (c_171 : laws_szActS_T) (a_Start_Cells : List Int) (a_Start_Map : List Int) (a_Start_Count : Int) (a_Progs : List (List PM.C)) (a_Acts : List (List Int)) (left : Int) (k : PM.V → PM.R) : PM.pfun A cx [] (laws_szScript_E A c_169 c_170 c_171) Go.Proofs.Try.f83 [.agg [.arr (.ints 3 .i64 a_Start_Cells), .arr (.ints 3 .i64 a_Start_Map), .int .i64 a_Start_Count, .arr (.rows 317 a_Progs), .arr (.vecs 322 3 a_Acts)], .int .i64 left] k = laws_szScript_f A c_169 c_170 c_171 a_Start_Cells a_Start_Map a_Start_Count a_Progs a_Acts left (fun r0 => k (.int .i64 r0)) := by kernel_rfl

theorem laws_szScript_fn : PM.FnIs Try.prog 83 Try.f83 := .of Try.func83 (by kernel_rfl) (by kernel_rfl)
theorem laws_szScript_g : PM.GOk Try.prog cx 83 ⟨[], laws_szScript_w (laws_szScript PM.std), none⟩ := by
  refine ⟨laws_szScript_fn.enter, fun _ ds k r h => ?_, fun hm => absurd rfl hm, fun _ e => (by cases e)⟩
  change laws_szScript_w (laws_szScript PM.std) ds k = some r at h
  unfold laws_szScript_w at h
  split at h
  · exact PM.pfun_ok (E := laws_szScript_E PM.std (laws_szThings PM.std) (laws_szProgS PM.std) (laws_szActS PM.std)) (L := fun n => laws_szScript_L PM.std (laws_szThings PM.std) (laws_szProgS PM.std) (laws_szActS PM.std) n) (N := PM.std.fuel) cx_ok (.cons laws_szThings_g (.cons laws_szProgS_g (.cons laws_szActS_g .nil))) mixed .nil laws_szScript_fn (by kernel_rfl) ⟨rfl, fun _ _ _ => rfl, fun n cur σ K r h => by cases h⟩
      ((laws_szScript_ok PM.std (laws_szThings PM.std) (laws_szProgS PM.std) (laws_szActS PM.std) _ _ _ _ _ _ k).trans h)
  · cases h

abbrev laws_toThings_T := (List Int) → (List Int) → (Int) → ((List Int) → (List Int) → (Int) → PM.R) → PM.R
noncomputable def laws_toThings_w (c : laws_toThings_T) (ds : List PM.V) (k : PM.V → PM.R) : PM.R :=
  match ds with
  | [.agg [.arr (.ints 3 .i64 a_Cells), .arr (.ints 3 .i64 a_Map), .int .i64 a_Count]] => c a_Cells a_Map a_Count (fun r0_Cells r0_Map r0_Count => k (.agg [.arr (.ints 3 .i64 r0_Cells), .arr (.ints 3 .i64 r0_Map), .int .i64 r0_Count]))
  | _ => none
noncomputable def laws_toThings_f (A : PM.Prims) (c_37 : laws_toIntS_T) (a_Cells : List Int) (a_Map : List Int) (a_Count : Int) (k : (List Int) → (List Int) → (Int) → PM.R) : PM.R :=
  c_37 a_Cells (fun r1 =>
    c_37 a_Map (fun r2 =>
      k r1 r2 a_Count))
noncomputable def laws_toThings (A : PM.Prims) : laws_toThings_T := laws_toThings_f A (laws_toIntS A)
noncomputable def laws_toThings_L (A : PM.Prims) (c_37 : laws_toIntS_T) (n : Nat) : PM.Lam := fun cur σ K =>
  match cur, σ, K with
  | _, _, _ => none
noncomputable def laws_toThings_E (A : PM.Prims) (c_37 : laws_toIntS_T) : PM.Env := ⟨[(37, ⟨[], laws_toIntS_w c_37, none⟩)], [], [], [(0, [1, 2]), (1, [1, 2, 3]), (2, [1, 2, 3]), (3, [1, 2, 3]), (4, [2, 3]), (5, [2])], laws_toThings_L A c_37 A.fuel⟩
theorem laws_toThings_ok (A : PM.Prims) (c_37 : laws_toIntS_T) (a_Cells : List Int) (a_Map : List Int) (a_Count : Int) (k : PM.V → PM.R) : PM.pfun A cx [] (laws_toThings_E A c_37) Go.Proofs.Try.f174 [.agg [.arr (.ints 3 .i64 a_Cells), .arr (.ints 3 .i64 a_Map), .int .i64 a_Count]] k = laws_toThings_f A c_37 a_Cells a_Map a_Count (fun r0_Cells r0_Map r0_Count => k (.agg [.arr (.ints 3 .i64 r0_Cells), .arr (.ints 3 .i64 r0_Map), .int .i64 r0_Count])) := by kernel_rfl

theorem laws_toThings_fn : PM.FnIs Try.prog 174 Try.f174 := .of Try.func174 (by kernel_rfl) (by kernel_rfl)
theorem laws_toThings_g : PM.GOk Try.prog cx 174 ⟨[], laws_toThings_w (laws_toThings PM.std), none⟩ := by
  refine ⟨laws_toThings_fn.enter, fun _ ds k r h => ?_, fun hm => absurd rfl hm, fun _ e => (by cases e)⟩
  change laws_toThings_w (laws_toThings PM.std) ds k = some r at h
  unfold laws_toThings_w at h
  split at h
  · exact PM.pfun_ok (E := laws_toThings_E PM.std (laws_toIntS PM.std)) (L := fun n => laws_toThings_L PM.std (laws_toIntS PM.std) n) (N := PM.std.fuel) cx_ok (.cons laws_toIntS_g .nil) mixed .nil laws_toThings_fn (by kernel_rfl) ⟨rfl, fun _ _ _ => rfl, fun n cur σ K r h => by cases h⟩
      ((laws_toThings_ok PM.std (laws_toIntS PM.std) _ _ _ k).trans h)
  · cases h

abbrev laws_toProg_T := (List (List Int)) → (List (List PM.C)) → ((List (List Int)) → (List (List PM.C)) → PM.R) → PM.R
noncomputable def laws_toProg_w (c : laws_toProg_T) (ds : List PM.V) (k : PM.V → PM.R) : PM.R :=
  match ds with
  | [.agg [.arr (.vecs 409 4 a_Code), .arr (.rows 309 a_Kids)]] => c a_Code a_Kids (fun r0_Code r0_Kids => k (.agg [.arr (.vecs 312 4 r0_Code), .arr (.rows 233 r0_Kids)]))
  | _ => none
noncomputable def laws_toProg_f (A : PM.Prims) (c_282 : laws_toOpS_T) (c_165 : laws_toKidS_T) (a_Code : List (List Int)) (a_Kids : List (List PM.C)) (k : (List (List Int)) → (List (List PM.C)) → PM.R) : PM.R :=
  c_282 a_Code (fun r1 =>
    c_165 a_Kids (fun r2 =>
      k r1 r2))
noncomputable def laws_toProg (A : PM.Prims) : laws_toProg_T := laws_toProg_f A (laws_toOpS A) (laws_toKidS A)
noncomputable def laws_toProg_L (A : PM.Prims) (c_282 : laws_toOpS_T) (c_165 : laws_toKidS_T) (n : Nat) : PM.Lam := fun cur σ K =>
  match cur, σ, K with
  | _, _, _ => none
noncomputable def laws_toProg_E (A : PM.Prims) (c_282 : laws_toOpS_T) (c_165 : laws_toKidS_T) : PM.Env := ⟨[(282, ⟨[], laws_toOpS_w c_282, none⟩), (165, ⟨[], laws_toKidS_w c_165, none⟩)], [], [], [(0, [1, 2]), (1, [1, 2, 3]), (2, [1, 2, 3]), (3, [2, 3]), (4, [2])], laws_toProg_L A c_282 c_165 A.fuel⟩
theorem laws_toProg_ok (A : PM.Prims) (c_282 : laws_toOpS_T) (c_165 : laws_toKidS_T) (a_Code : List (List Int)) (a_Kids : List (List PM.C)) (k : PM.V → PM.R) : PM.pfun A cx [] (laws_toProg_E A c_282 c_165) Go.Proofs.Try.f231 [.agg [.arr (.vecs 409 4 a_Code), .arr (.rows 309 a_Kids)]] k = laws_toProg_f A c_282 c_165 a_Code a_Kids (fun r0_Code r0_Kids => k (.agg [.arr (.vecs 312 4 r0_Code), .arr (.rows 233 r0_Kids)])) := by kernel_rfl

theorem laws_toProg_fn : PM.FnIs Try.prog 231 Try.f231 := .of Try.func231 (by kernel_rfl) (by kernel_rfl)
theorem laws_toProg_g : PM.GOk Try.prog cx 231 ⟨[], laws_toProg_w (laws_toProg PM.std), none⟩ := by
  refine ⟨laws_toProg_fn.enter, fun _ ds k r h => ?_, fun hm => absurd rfl hm, fun _ e => (by cases e)⟩
  change laws_toProg_w (laws_toProg PM.std) ds k = some r at h
  unfold laws_toProg_w at h
  split at h
  · exact PM.pfun_ok (E := laws_toProg_E PM.std (laws_toOpS PM.std) (laws_toKidS PM.std)) (L := fun n => laws_toProg_L PM.std (laws_toOpS PM.std) (laws_toKidS PM.std) n) (N := PM.std.fuel) cx_ok (.cons laws_toOpS_g (.cons laws_toKidS_g .nil)) mixed .nil laws_toProg_fn (by kernel_rfl) ⟨rfl, fun _ _ _ => rfl, fun n cur σ K r h => by cases h⟩
      ((laws_toProg_ok PM.std (laws_toOpS PM.std) (laws_toKidS PM.std) _ _ k).trans h)
  · cases h

abbrev laws_toProgS_T := (List (List PM.C)) → ((List (List PM.C)) → PM.R) → PM.R
noncomputable def laws_toProgS_w (c : laws_toProgS_T) (ds : List PM.V) (k : PM.V → PM.R) : PM.R :=
  match ds with
  | [.arr (.rows 317 a)] => c a (fun r0 => k (.arr (.rows 242 r0)))
  | _ => none
noncomputable def laws_toProgS_l0 (A : PM.Prims) (c_231 : laws_toProg_T) : Nat → (List (List C)) → (Int) → (List (List C)) → ((List (List C)) → PM.R) → PM.R
  | 0, _, _, _, _ => none
  | n + 1, a1, i2, o03, kx0_0 =>
    bif (A.lt i2 (A.rlen a1)) then
      bif (A.inb i2 (A.rlen a1)) then
        c_231 (A.rsv 4 a1 i2 0) (A.rsr a1 i2 1) (fun r4 r5 =>
          bif (A.inb i2 (A.rlen o03)) then
            laws_toProgS_l0 A c_231 n a1 (A.add .i64 i2 1) (A.rput o03 i2 [(.s (A.ofv r4)), (.s r5)]) kx0_0
          else
            none)
      else
        none
    else
      kx0_0 o03
noncomputable def laws_toProgS_f (A : PM.Prims) (c_231 : laws_toProg_T) (a : List (List PM.C)) (k : (List (List PM.C)) → PM.R) : PM.R :=
  bif (A.mkOk (A.rlen a)) then
    bif (A.le (A.rlen a) (A.rlen a)) then
      bif (A.mkOk (A.rlen a)) then
        laws_toProgS_l0 A c_231 A.fuel a 0 (A.rzero [(.s (A.ofv [])), (.s [])] (A.rlen a)) (fun o067 =>
          k o067)
      else
        none
    else
      none
  else
    none
noncomputable def laws_toProgS (A : PM.Prims) : laws_toProgS_T := laws_toProgS_f A (laws_toProg A)
noncomputable def laws_toProgS_L (A : PM.Prims) (c_231 : laws_toProg_T) (n : Nat) : PM.Lam := fun cur σ K =>
  match cur, σ, K with
  | 0, ⟨[(0, .arr (.rows 317 a1)), (3, .sref 0), (4, .int .i64 i2)], [(0, .arr true (.rows 242 o03))]⟩, K => laws_toProgS_l0 A c_231 n a1 i2 o03 (fun o06 => K (.exit 0) ⟨[(3, .sref 0)], [(0, .arr true (.rows 242 o06))]⟩)
  | _, _, _ => none
noncomputable def laws_toProgS_E (A : PM.Prims) (c_231 : laws_toProg_T) : PM.Env := ⟨[(231, ⟨[], laws_toProg_w c_231, none⟩)], [], [(0, [0, 3, 4], [2, 3])], [(0, [0]), (1, [0, 3]), (2, [0, 3, 4]), (3, [0, 3, 4, 11]), (4, [0, 3, 4]), (5, [0, 3, 4]), (6, [2])], laws_toProgS_L A c_231 A.fuel⟩
theorem laws_toProgS_l0_ok (A : PM.Prims) (c_231 : laws_toProg_T) (n : Nat) (a1 : List (List C)) (i2 : Int) (o03 : List (List C)) (K : Go.Exit → PM.S → PM.R) : laws_toProgS_L A c_231 (n + 1) 0 ⟨[(0, .arr (.rows 317 a1)), (3, .sref 0), (4, .int .i64 i2)], [(0, .arr true (.rows 242 o03))]⟩ K = PM.roundF A cx (PM.runD A cx (laws_toProgS_E A c_231).inl (laws_toProgS_E A c_231).Γ 3) (laws_toProgS_E A c_231) (laws_toProgS_L A c_231 n) 0 Go.Proofs.Try.f175 ⟨[(0, .arr (.rows 317 a1)), (3, .sref 0), (4, .int .i64 i2)], [(0, .arr true (.rows 242 o03))]⟩ K := by kernel_rfl
theorem laws_toProgS_ok (A : PM.Prims) (c_231 : laws_toProg_T) (a : List (List PM.C)) (k : PM.V → PM.R) : PM.pfun A cx [] (laws_toProgS_E A c_231) Go.Proofs.Try.f175 [.arr (.rows 317 a)] k = laws_toProgS_f A c_231 a (fun r0 => k (.arr (.rows 242 r0))) := by kernel_rfl

theorem laws_toProgS_fn : PM.FnIs Try.prog 175 Try.f175 := .of Try.func175 (by kernel_rfl) (by kernel_rfl)
theorem laws_toProgS_g : PM.GOk Try.prog cx 175 ⟨[], laws_toProgS_w (laws_toProgS PM.std), none⟩ := by
  refine ⟨laws_toProgS_fn.enter, fun _ ds k r h => ?_, fun hm => absurd rfl hm, fun _ e => (by cases e)⟩
  change laws_toProgS_w (laws_toProgS PM.std) ds k = some r at h
  unfold laws_toProgS_w at h
  split at h
  · exact PM.pfun_ok (E := laws_toProgS_E PM.std (laws_toProg PM.std)) (L := fun n => laws_toProgS_L PM.std (laws_toProg PM.std) n) (N := PM.std.fuel) cx_ok (.cons laws_toProg_g .nil) mixed .nil laws_toProgS_fn (by kernel_rfl) ⟨rfl, fun cur σ K => by
      dsimp only [laws_toProgS_L]
      split <;> rfl, fun n cur σ K r h => by
      dsimp only [laws_toProgS_L] at h
      split at h
      · exact (laws_toProgS_l0_ok PM.std (laws_toProg PM.std) n _ _ _ K).symm.trans h
      · cases h⟩
      ((laws_toProgS_ok PM.std (laws_toProg PM.std) _ k).trans h)
  · cases h

abbrev laws_toAct_T := (Int) → (Int) → (Int) → ((Int) → (Int) → (Int) → PM.R) → PM.R
noncomputable def laws_toAct_w (c : laws_toAct_T) (ds : List PM.V) (k : PM.V → PM.R) : PM.R :=
  match ds with
  | [.agg [.int .i64 a_Kind, .int .i64 a_Root, .int .i64 a_Kid]] => c a_Kind a_Root a_Kid (fun r0_Kind r0_Root r0_Kid => k (.agg [.int .i64 r0_Kind, .int .i64 r0_Root, .int .i64 r0_Kid]))
  | _ => none
noncomputable def laws_toAct_f (A : PM.Prims) (a_Kind : Int) (a_Root : Int) (a_Kid : Int) (k : (Int) → (Int) → (Int) → PM.R) : PM.R :=
  k a_Kind a_Root a_Kid
noncomputable def laws_toAct (A : PM.Prims) : laws_toAct_T := laws_toAct_f A
noncomputable def laws_toAct_L (A : PM.Prims) (n : Nat) : PM.Lam := fun cur σ K =>
  match cur, σ, K with
  | _, _, _ => none
noncomputable def laws_toAct_E (A : PM.Prims) : PM.Env := ⟨[], [], [], [(0, [1, 2]), (1, [1, 2, 3]), (2, [1, 2, 3]), (3, [1, 2, 3]), (4, [2, 3]), (5, [2])], laws_toAct_L A A.fuel⟩
theorem laws_toAct_ok (A : PM.Prims) (a_Kind : Int) (a_Root : Int) (a_Kid : Int) (k : PM.V → PM.R) : PM.pfun A cx [] (laws_toAct_E A) Go.Proofs.Try.f232 [.agg [.int .i64 a_Kind, .int .i64 a_Root, .int .i64 a_Kid]] k = laws_toAct_f A a_Kind a_Root a_Kid (fun r0_Kind r0_Root r0_Kid => k (.agg [.int .i64 r0_Kind, .int .i64 r0_Root, .int .i64 r0_Kid])) := by kernel_rfl

theorem laws_toAct_fn : PM.FnIs Try.prog 232 Try.f232 := .of Try.func232 (by kernel_rfl) (by kernel_rfl)
theorem laws_toAct_g : PM.GOk Try.prog cx 232 ⟨[], laws_toAct_w (laws_toAct PM.std), none⟩ := by
  refine ⟨laws_toAct_fn.enter, fun _ ds k r h => ?_, fun hm => absurd rfl hm, fun _ e => (by cases e)⟩
  change laws_toAct_w (laws_toAct PM.std) ds k = some r at h
  unfold laws_toAct_w at h
  split at h
  · exact PM.pfun_ok (E := laws_toAct_E PM.std) (L := fun n => laws_toAct_L PM.std n) (N := PM.std.fuel) cx_ok .nil mixed .nil laws_toAct_fn (by kernel_rfl) ⟨rfl, fun _ _ _ => rfl, fun n cur σ K r h => by cases h⟩
      ((laws_toAct_ok PM.std _ _ _ k).trans h)
  · cases h

abbrev laws_toActS_T := (List (List Int)) → ((List (List Int)) → PM.R) → PM.R
noncomputable def laws_toActS_w (c : laws_toActS_T) (ds : List PM.V) (k : PM.V → PM.R) : PM.R :=
  match ds with
  | [.arr (.vecs 322 3 a)] => c a (fun r0 => k (.arr (.vecs 320 3 r0)))
  | _ => none
noncomputable def laws_toActS_l0 (A : PM.Prims) (c_232 : laws_toAct_T) : Nat → (List (List Int)) → (Int) → (List (List Int)) → ((List (List Int)) → PM.R) → PM.R
  | 0, _, _, _, _ => none
  | n + 1, a1, i2, o03, kx0_0 =>
    bif (A.lt i2 (A.vlen a1)) then
      bif (A.inb i2 (A.vlen a1)) then
        c_232 (A.vget a1 i2 0) (A.vget a1 i2 1) (A.vget a1 i2 2) (fun r4 r5 r6 =>
          bif (A.inb i2 (A.vlen o03)) then
            laws_toActS_l0 A c_232 n a1 (A.add .i64 i2 1) (A.vput o03 i2 [r4, r5, r6]) kx0_0
          else
            none)
      else
        none
    else
      kx0_0 o03
noncomputable def laws_toActS_f (A : PM.Prims) (c_232 : laws_toAct_T) (a : List (List Int)) (k : (List (List Int)) → PM.R) : PM.R :=
  bif (A.mkOk (A.vlen a)) then
    bif (A.le (A.vlen a) (A.vlen a)) then
      bif (A.mkOk (A.vlen a)) then
        laws_toActS_l0 A c_232 A.fuel a 0 (A.vzero 3 (A.vlen a)) (fun o078 =>
          k o078)
      else
        none
    else
      none
  else
    none
noncomputable def laws_toActS (A : PM.Prims) : laws_toActS_T := laws_toActS_f A (laws_toAct A)
noncomputable def laws_toActS_L (A : PM.Prims) (c_232 : laws_toAct_T) (n : Nat) : PM.Lam := fun cur σ K =>
  match cur, σ, K with
  | 0, ⟨[(0, .arr (.vecs 322 3 a1)), (3, .sref 0), (4, .int .i64 i2)], [(0, .arr true (.vecs 320 3 o03))]⟩, K => laws_toActS_l0 A c_232 n a1 i2 o03 (fun o07 => K (.exit 0) ⟨[(3, .sref 0)], [(0, .arr true (.vecs 320 3 o07))]⟩)
  | _, _, _ => none
noncomputable def laws_toActS_E (A : PM.Prims) (c_232 : laws_toAct_T) : PM.Env := ⟨[(232, ⟨[], laws_toAct_w c_232, none⟩)], [], [(0, [0, 3, 4], [2, 3])], [(0, [0]), (1, [0, 3]), (2, [0, 3, 4]), (3, [0, 3, 4, 11]), (4, [0, 3, 4]), (5, [0, 3, 4]), (6, [2])], laws_toActS_L A c_232 A.fuel⟩
theorem laws_toActS_l0_ok (A : PM.Prims) (c_232 : laws_toAct_T) (n : Nat) (a1 : List (List Int)) (i2 : Int) (o03 : List (List Int)) (K : Go.Exit → PM.S → PM.R) : laws_toActS_L A c_232 (n + 1) 0 ⟨[(0, .arr (.vecs 322 3 a1)), (3, .sref 0), (4, .int .i64 i2)], [(0, .arr true (.vecs 320 3 o03))]⟩ K = PM.roundF A cx (PM.runD A cx (laws_toActS_E A c_232).inl (laws_toActS_E A c_232).Γ 3) (laws_toActS_E A c_232) (laws_toActS_L A c_232 n) 0 Go.Proofs.Try.f176 ⟨[(0, .arr (.vecs 322 3 a1)), (3, .sref 0), (4, .int .i64 i2)], [(0, .arr true (.vecs 320 3 o03))]⟩ K := by kernel_rfl
theorem laws_toActS_ok (A : PM.Prims) (c_232 : laws_toAct_T) (a : List (List Int)) (k : PM.V → PM.R) : PM.pfun A cx [] (laws_toActS_E A c_232) Go.Proofs.Try.f176 [.arr (.vecs 322 3 a)] k = laws_toActS_f A c_232 a (fun r0 => k (.arr (.vecs 320 3 r0))) := by kernel_rfl

theorem laws_toActS_fn : PM.FnIs Try.prog 176 Try.f176 := .of Try.func176 (by kernel_rfl) (by kernel_rfl)
theorem laws_toActS_g : PM.GOk Try.prog cx 176 ⟨[], laws_toActS_w (laws_toActS PM.std), none⟩ := by
  refine ⟨laws_toActS_fn.enter, fun _ ds k r h => ?_, fun hm => absurd rfl hm, fun _ e => (by cases e)⟩
  change laws_toActS_w (laws_toActS PM.std) ds k = some r at h
  unfold laws_toActS_w at h
  split at h
  · exact PM.pfun_ok (E := laws_toActS_E PM.std (laws_toAct PM.std)) (L := fun n => laws_toActS_L PM.std (laws_toAct PM.std) n) (N := PM.std.fuel) cx_ok (.cons laws_toAct_g .nil) mixed .nil laws_toActS_fn (by kernel_rfl) ⟨rfl, fun cur σ K => by
      dsimp only [laws_toActS_L]
      split <;> rfl, fun n cur σ K r h => by
      dsimp only [laws_toActS_L] at h
      split at h
      · exact (laws_toActS_l0_ok PM.std (laws_toAct PM.std) n _ _ _ K).symm.trans h
      · cases h⟩
      ((laws_toActS_ok PM.std (laws_toAct PM.std) _ k).trans h)
  · cases h

abbrev laws_toScript_T := (List Int) → (List Int) → (Int) → (List (List PM.C)) → (List (List Int)) → ((List Int) → (List Int) → (Int) → (List (List PM.C)) → (List (List Int)) → PM.R) → PM.R
noncomputable def laws_toScript_w (c : laws_toScript_T) (ds : List PM.V) (k : PM.V → PM.R) : PM.R :=
  match ds with
  | [.agg [.arr (.ints 3 .i64 a_Start_Cells), .arr (.ints 3 .i64 a_Start_Map), .int .i64 a_Start_Count, .arr (.rows 317 a_Progs), .arr (.vecs 322 3 a_Acts)]] => c a_Start_Cells a_Start_Map a_Start_Count a_Progs a_Acts (fun r0_Start_Cells r0_Start_Map r0_Start_Count r0_Progs r0_Acts => k (.agg [.arr (.ints 3 .i64 r0_Start_Cells), .arr (.ints 3 .i64 r0_Start_Map), .int .i64 r0_Start_Count, .arr (.rows 242 r0_Progs), .arr (.vecs 320 3 r0_Acts)]))
  | _ => none
noncomputable def laws_toScript_f (A : PM.Prims) (c_174 : laws_toThings_T) (c_175 : laws_toProgS_T) (c_176 : laws_toActS_T) (a_Start_Cells : List Int) (a_Start_Map : List Int) (a_Start_Count : Int) (a_Progs : List (List PM.C)) (a_Acts : List (List Int)) (k : (List Int) → (List Int) → (Int) → (List (List PM.C)) → (List (List Int)) → PM.R) : PM.R :=
  c_174 a_Start_Cells a_Start_Map a_Start_Count (fun r1 r2 r3 =>
    c_175 a_Progs (fun r4 =>
      c_176 a_Acts (fun r5 =>
        k r1 r2 r3 r4 r5)))
noncomputable def laws_toScript (A : PM.Prims) : laws_toScript_T := laws_toScript_f A (laws_toThings A) (laws_toProgS A) (laws_toActS A)
noncomputable def laws_toScript_L (A : PM.Prims) (c_174 : laws_toThings_T) (c_175 : laws_toProgS_T) (c_176 : laws_toActS_T) (n : Nat) : PM.Lam := fun cur σ K =>
  match cur, σ, K with
  | _, _, _ => none
noncomputable def laws_toScript_E (A : PM.Prims) (c_174 : laws_toThings_T) (c_175 : laws_toProgS_T) (c_176 : laws_toActS_T) : PM.Env := ⟨[(174, ⟨[], laws_toThings_w c_174, none⟩), (175, ⟨[], laws_toProgS_w c_175, none⟩), (176, ⟨[], laws_toActS_w c_176, none⟩)], [], [], [(0, [1, 2]), (1, [1, 2, 3]), (2, [1, 2, 3]), (3, [1, 2, 3]), (4, [2, 3]), (5, [2])], laws_toScript_L A c_174 c_175 c_176 A.fuel⟩
theorem laws_toScript_ok (A : PM.Prims) (c_174 : laws_toThings_T) (c_175 : laws_toProgS_T) (c_176 : laws_toActS_T) (a_Start_Cells : List Int) (a_Start_Map : List Int) (a_Start_Count : Int) (a_Progs : List (List PM.C)) (a_Acts : List (List Int)) (k : PM.V → PM.R) : PM.pfun A cx [] (laws_toScript_E A c_174 c_175 c_176) Go.Proofs.Try.f85 [.agg [.arr (.ints 3 .i64 a_Start_Cells), .arr (.ints 3 .i64 a_Start_Map), .int .i64 a_Start_Count, .arr (.rows 317 a_Progs), .arr (.vecs 322 3 a_Acts)]] k = laws_toScript_f A c_174 c_175 c_176 a_Start_Cells a_Start_Map a_Start_Count a_Progs a_Acts (fun r0_Start_Cells r0_Start_Map r0_Start_Count r0_Progs r0_Acts => k (.agg [.arr (.ints 3 .i64 r0_Start_Cells), .arr (.ints 3 .i64 r0_Start_Map), .int .i64 r0_Start_Count, .arr (.rows 242 r0_Progs), .arr (.vecs 320 3 r0_Acts)])) := by kernel_rfl

theorem laws_toScript_fn : PM.FnIs Try.prog 85 Try.f85 := .of Try.func85 (by kernel_rfl) (by kernel_rfl)
theorem laws_toScript_g : PM.GOk Try.prog cx 85 ⟨[], laws_toScript_w (laws_toScript PM.std), none⟩ := by
  refine ⟨laws_toScript_fn.enter, fun _ ds k r h => ?_, fun hm => absurd rfl hm, fun _ e => (by cases e)⟩
  change laws_toScript_w (laws_toScript PM.std) ds k = some r at h
  unfold laws_toScript_w at h
  split at h
  · exact PM.pfun_ok (E := laws_toScript_E PM.std (laws_toThings PM.std) (laws_toProgS PM.std) (laws_toActS PM.std)) (L := fun n => laws_toScript_L PM.std (laws_toThings PM.std) (laws_toProgS PM.std) (laws_toActS PM.std) n) (N := PM.std.fuel) cx_ok (.cons laws_toThings_g (.cons laws_toProgS_g (.cons laws_toActS_g .nil))) mixed .nil laws_toScript_fn (by kernel_rfl) ⟨rfl, fun _ _ _ => rfl, fun n cur σ K r h => by cases h⟩
      ((laws_toScript_ok PM.std (laws_toThings PM.std) (laws_toProgS PM.std) (laws_toActS PM.std) _ _ _ _ _ k).trans h)
  · cases h

abbrev spec_ThingsOk_T := (List Int) → (List Int) → (Int) → ((Bool) → PM.R) → PM.R
noncomputable def spec_ThingsOk_w (c : spec_ThingsOk_T) (ds : List PM.V) (k : PM.V → PM.R) : PM.R :=
  match ds with
  | [.agg [.arr (.ints 3 .i64 s_Cells), .arr (.ints 3 .i64 s_Map), .int .i64 s_Count]] => c s_Cells s_Map s_Count (fun r0 => k (.bool r0))
  | _ => none
noncomputable def spec_ThingsOk_l0 (A : PM.Prims) (c_103 : spec_l1In_T) (c_197 : spec_l3Val_T) (c_107 : spec_l3Vals_T) : Nat → (Int) → (List Int) → (List Int) → (Int) → ((Bool) → PM.R) → (Unit → PM.R) → PM.R
  | 0, _, _, _, _, _, _ => none
  | n + 1, i3, o04, o05, o06, kret_0, kx0_0 =>
    bif (A.lt i3 (A.ilen o05)) then
      bif (A.inb i3 (A.ilen o05)) then
        c_103 (A.iget o05 i3) 0 65536 (fun r7 =>
          bif (A.not r7) then
            kret_0 false
          else
            spec_ThingsOk_l0 A c_103 c_197 c_107 n (A.add .i64 i3 1) o04 o05 o06 kret_0 kx0_0)
      else
        none
    else
      kx0_0 ()
noncomputable def spec_ThingsOk_f (A : PM.Prims) (c_103 : spec_l1In_T) (c_197 : spec_l3Val_T) (c_107 : spec_l3Vals_T) (s_Cells : List Int) (s_Map : List Int) (s_Count : Int) (k : (Bool) → PM.R) : PM.R :=
  c_107 s_Cells (fun r1 =>
    bif (A.not r1) then
      k false
    else
      bif (A.not (A.eq (A.ilen s_Map) 8)) then
        k false
      else
        c_197 s_Count (fun r2 =>
          bif (A.not r2) then
            k false
          else
            spec_ThingsOk_l0 A c_103 c_197 c_107 A.fuel 0 s_Cells s_Map s_Count (fun t289 =>
              k t289) (fun _ =>
              k true)))
noncomputable def spec_ThingsOk (A : PM.Prims) : spec_ThingsOk_T := spec_ThingsOk_f A (spec_l1In A) (spec_l3Val A) (spec_l3Vals A)
noncomputable def spec_ThingsOk_L (A : PM.Prims) (c_103 : spec_l1In_T) (c_197 : spec_l3Val_T) (c_107 : spec_l3Vals_T) (n : Nat) : PM.Lam := fun cur σ K =>
  match cur, σ, K with
  | 0, ⟨[(1, .pbox 0 0), (3, .int .i64 i3)], [(0, .box [.arr (.ints 3 .i64 o04), .arr (.ints 3 .i64 o05), .int .i64 o06])]⟩, K => spec_ThingsOk_l0 A c_103 c_197 c_107 n i3 o04 o05 o06 (fun t28 => K .ret ⟨[(2, .bool t28)], []⟩) (fun _ => K (.exit 0) ⟨[], []⟩)
  | _, _, _ => none
noncomputable def spec_ThingsOk_E (A : PM.Prims) (c_103 : spec_l1In_T) (c_197 : spec_l3Val_T) (c_107 : spec_l3Vals_T) : PM.Env := ⟨[(103, ⟨[], spec_l1In_w c_103, none⟩), (197, ⟨[], spec_l3Val_w c_197, none⟩), (107, ⟨[], spec_l3Vals_w c_107, none⟩)], [], [(0, [1, 3], [2])], [(0, [1]), (1, [1, 19]), (2, [2]), (3, [1, 3]), (4, [1, 3, 24]), (5, [1, 3]), (6, [1, 3, 33]), (7, [2]), (8, [2])], spec_ThingsOk_L A c_103 c_197 c_107 A.fuel⟩
theorem spec_ThingsOk_l0_ok (A : PM.Prims) (c_103 : spec_l1In_T) (c_197 : spec_l3Val_T) (c_107 : spec_l3Vals_T) (n : Nat) (i3 : Int) (o04 : List Int) (o05 : List Int) (o06 : Int) (K : Go.Exit → PM.S → PM.R) : spec_ThingsOk_L A c_103 c_197 c_107 (n + 1) 0 ⟨[(1, .pbox 0 0), (3, .int .i64 i3)], [(0, .box [.arr (.ints 3 .i64 o04), .arr (.ints 3 .i64 o05), .int .i64 o06])]⟩ K = PM.roundF A cx (PM.runD A cx (spec_ThingsOk_E A c_103 c_197 c_107).inl (spec_ThingsOk_E A c_103 c_197 c_107).Γ 3) (spec_ThingsOk_E A c_103 c_197 c_107) (spec_ThingsOk_L A c_103 c_197 c_107 n) 0 Go.Proofs.Try.f172 ⟨[(1, .pbox 0 0), (3, .int .i64 i3)], [(0, .box [.arr (.ints 3 .i64 o04), .arr (.ints 3 .i64 o05), .int .i64 o06])]⟩ K := by kernel_rfl
theorem spec_ThingsOk_ok (A : PM.Prims) (c_103 : spec_l1In_T) (c_197 : spec_l3Val_T) (c_107 : spec_l3Vals_T) (s_Cells : List Int) (s_Map : List Int) (s_Count : Int) (k : PM.V → PM.R) : PM.pfun A cx [] (spec_ThingsOk_E A c_103 c_197 c_107) Go.Proofs.Try.f172 [.agg [.arr (.ints 3 .i64 s_Cells), .arr (.ints 3 .i64 s_Map), .int .i64 s_Count]] k = spec_ThingsOk_f A c_103 c_197 c_107 s_Cells s_Map s_Count (fun r0 => k (.bool r0)) := by kernel_rfl

theorem spec_ThingsOk_fn : PM.FnIs Try.prog 172 Try.f172 := .of Try.func172 (by kernel_rfl) (by kernel_rfl)
theorem spec_ThingsOk_g : PM.GOk Try.prog cx 172 ⟨[], spec_ThingsOk_w (spec_ThingsOk PM.std), none⟩ := by
  refine ⟨spec_ThingsOk_fn.enter, fun _ ds k r h => ?_, fun hm => absurd rfl hm, fun _ e => (by cases e)⟩
  change spec_ThingsOk_w (spec_ThingsOk PM.std) ds k = some r at h
  unfold spec_ThingsOk_w at h
  split at h
  · exact PM.pfun_ok (E := spec_ThingsOk_E PM.std (spec_l1In PM.std) (spec_l3Val PM.std) (spec_l3Vals PM.std)) (L := fun n => spec_ThingsOk_L PM.std (spec_l1In PM.std) (spec_l3Val PM.std) (spec_l3Vals PM.std) n) (N := PM.std.fuel) cx_ok (.cons spec_l1In_g (.cons spec_l3Val_g (.cons spec_l3Vals_g .nil))) mixed .nil spec_ThingsOk_fn (by kernel_rfl) ⟨rfl, fun cur σ K => by
      dsimp only [spec_ThingsOk_L]
      split <;> rfl, fun n cur σ K r h => by
      dsimp only [spec_ThingsOk_L] at h
      split at h
      · exact (spec_ThingsOk_l0_ok PM.std (spec_l1In PM.std) (spec_l3Val PM.std) (spec_l3Vals PM.std) n _ _ _ _ K).symm.trans h
      · cases h⟩
      ((spec_ThingsOk_ok PM.std (spec_l1In PM.std) (spec_l3Val PM.std) (spec_l3Vals PM.std) _ _ _ k).trans h)
  · cases h

abbrev spec_ProgOk_T := (List (List Int)) → (List (List PM.C)) → ((Bool) → PM.R) → PM.R
noncomputable def spec_ProgOk_w (c : spec_ProgOk_T) (ds : List PM.V) (k : PM.V → PM.R) : PM.R :=
  match ds with
  | [.agg [.arr (.vecs 312 4 p_Code), .arr (.rows 233 p_Kids)]] => c p_Code p_Kids (fun r0 => k (.bool r0))
  | _ => none
noncomputable def spec_ProgOk_l0 (A : PM.Prims) (c_223 : spec_CodeOk_T) (c_224 : spec_HasFork_T) (c_164 : spec_KidOk_T) : Nat → (Int) → (List (List Int)) → (List (List C)) → ((Bool) → PM.R) → (Unit → PM.R) → PM.R
  | 0, _, _, _, _, _ => none
  | n + 1, i3, o04, o05, kret_0, kx0_0 =>
    bif (A.lt i3 (A.rlen o05)) then
      bif (A.inb i3 (A.rlen o05)) then
        c_164 (A.rsv 4 o05 i3 0) (fun r6 =>
          bif (A.not r6) then
            kret_0 false
          else
            spec_ProgOk_l0 A c_223 c_224 c_164 n (A.add .i64 i3 1) o04 o05 kret_0 kx0_0)
      else
        none
    else
      kx0_0 ()
noncomputable def spec_ProgOk_f (A : PM.Prims) (c_223 : spec_CodeOk_T) (c_224 : spec_HasFork_T) (c_164 : spec_KidOk_T) (p_Code : List (List Int)) (p_Kids : List (List PM.C)) (k : (Bool) → PM.R) : PM.R :=
  c_223 p_Code (fun r1 =>
    bif (A.not r1) then
      k false
    else
      bif (A.lt 3 (A.rlen p_Kids)) then
        k false
      else
        c_224 p_Code (fun r2 =>
          bif (A.not (A.beq r2 (A.lt 0 (A.rlen p_Kids)))) then
            k false
          else
            spec_ProgOk_l0 A c_223 c_224 c_164 A.fuel 0 p_Code p_Kids (fun t278 =>
              k t278) (fun _ =>
              k true)))
noncomputable def spec_ProgOk (A : PM.Prims) : spec_ProgOk_T := spec_ProgOk_f A (spec_CodeOk A) (spec_HasFork A) (spec_KidOk A)
noncomputable def spec_ProgOk_L (A : PM.Prims) (c_223 : spec_CodeOk_T) (c_224 : spec_HasFork_T) (c_164 : spec_KidOk_T) (n : Nat) : PM.Lam := fun cur σ K =>
  match cur, σ, K with
  | 0, ⟨[(1, .pbox 0 0), (3, .int .i64 i3)], [(0, .box [.arr (.vecs 312 4 o04), .arr (.rows 233 o05)])]⟩, K => spec_ProgOk_l0 A c_223 c_224 c_164 n i3 o04 o05 (fun t27 => K .ret ⟨[(2, .bool t27)], []⟩) (fun _ => K (.exit 0) ⟨[], []⟩)
  | _, _, _ => none
noncomputable def spec_ProgOk_E (A : PM.Prims) (c_223 : spec_CodeOk_T) (c_224 : spec_HasFork_T) (c_164 : spec_KidOk_T) : PM.Env := ⟨[(223, ⟨[], spec_CodeOk_w c_223, none⟩), (224, ⟨[], spec_HasFork_w c_224, none⟩), (164, ⟨[], spec_KidOk_w c_164, none⟩)], [], [(0, [1, 3], [2])], [(0, [1]), (1, [1, 23]), (2, [2]), (3, [1, 3]), (4, [1, 3, 28]), (5, [1, 3]), (6, [1, 3, 38]), (7, [2]), (8, [2])], spec_ProgOk_L A c_223 c_224 c_164 A.fuel⟩
theorem spec_ProgOk_l0_ok (A : PM.Prims) (c_223 : spec_CodeOk_T) (c_224 : spec_HasFork_T) (c_164 : spec_KidOk_T) (n : Nat) (i3 : Int) (o04 : List (List Int)) (o05 : List (List C)) (K : Go.Exit → PM.S → PM.R) : spec_ProgOk_L A c_223 c_224 c_164 (n + 1) 0 ⟨[(1, .pbox 0 0), (3, .int .i64 i3)], [(0, .box [.arr (.vecs 312 4 o04), .arr (.rows 233 o05)])]⟩ K = PM.roundF A cx (PM.runD A cx (spec_ProgOk_E A c_223 c_224 c_164).inl (spec_ProgOk_E A c_223 c_224 c_164).Γ 3) (spec_ProgOk_E A c_223 c_224 c_164) (spec_ProgOk_L A c_223 c_224 c_164 n) 0 Go.Proofs.Try.f173 ⟨[(1, .pbox 0 0), (3, .int .i64 i3)], [(0, .box [.arr (.vecs 312 4 o04), .arr (.rows 233 o05)])]⟩ K := by kernel_rfl
theorem spec_ProgOk_ok (A : PM.Prims) (c_223 : spec_CodeOk_T) (c_224 : spec_HasFork_T) (c_164 : spec_KidOk_T) (p_Code : List (List Int)) (p_Kids : List (List PM.C)) (k : PM.V → PM.R) : PM.pfun A cx [] (spec_ProgOk_E A c_223 c_224 c_164) Go.Proofs.Try.f173 [.agg [.arr (.vecs 312 4 p_Code), .arr (.rows 233 p_Kids)]] k = spec_ProgOk_f A c_223 c_224 c_164 p_Code p_Kids (fun r0 => k (.bool r0)) := by kernel_rfl

theorem spec_ProgOk_fn : PM.FnIs Try.prog 173 Try.f173 := .of Try.func173 (by kernel_rfl) (by kernel_rfl)
theorem spec_ProgOk_g : PM.GOk Try.prog cx 173 ⟨[], spec_ProgOk_w (spec_ProgOk PM.std), none⟩ := by
  refine ⟨spec_ProgOk_fn.enter, fun _ ds k r h => ?_, fun hm => absurd rfl hm, fun _ e => (by cases e)⟩
  change spec_ProgOk_w (spec_ProgOk PM.std) ds k = some r at h
  unfold spec_ProgOk_w at h
  split at h
  · exact PM.pfun_ok (E := spec_ProgOk_E PM.std (spec_CodeOk PM.std) (spec_HasFork PM.std) (spec_KidOk PM.std)) (L := fun n => spec_ProgOk_L PM.std (spec_CodeOk PM.std) (spec_HasFork PM.std) (spec_KidOk PM.std) n) (N := PM.std.fuel) cx_ok (.cons spec_CodeOk_g (.cons spec_HasFork_g (.cons spec_KidOk_g .nil))) mixed .nil spec_ProgOk_fn (by kernel_rfl) ⟨rfl, fun cur σ K => by
      dsimp only [spec_ProgOk_L]
      split <;> rfl, fun n cur σ K r h => by
      dsimp only [spec_ProgOk_L] at h
      split at h
      · exact (spec_ProgOk_l0_ok PM.std (spec_CodeOk PM.std) (spec_HasFork PM.std) (spec_KidOk PM.std) n _ _ _ K).symm.trans h
      · cases h⟩
      ((spec_ProgOk_ok PM.std (spec_CodeOk PM.std) (spec_HasFork PM.std) (spec_KidOk PM.std) _ _ k).trans h)
  · cases h

abbrev spec_ScriptOk_T := (List Int) → (List Int) → (Int) → (List (List PM.C)) → (List (List Int)) → ((Bool) → PM.R) → PM.R
noncomputable def spec_ScriptOk_w (c : spec_ScriptOk_T) (ds : List PM.V) (k : PM.V → PM.R) : PM.R :=
  match ds with
  | [.agg [.arr (.ints 3 .i64 s_Start_Cells), .arr (.ints 3 .i64 s_Start_Map), .int .i64 s_Start_Count, .arr (.rows 242 s_Progs), .arr (.vecs 320 3 s_Acts)]] => c s_Start_Cells s_Start_Map s_Start_Count s_Progs s_Acts (fun r0 => k (.bool r0))
  | _ => none
noncomputable def spec_ScriptOk_l0 (A : PM.Prims) (c_172 : spec_ThingsOk_T) (c_173 : spec_ProgOk_T) : Nat → (Int) → (List Int) → (List Int) → (Int) → (List (List C)) → (List (List Int)) → ((Bool) → PM.R) → (Unit → PM.R) → PM.R
  | 0, _, _, _, _, _, _, _, _ => none
  | n + 1, i2, o03, o04, o05, o06, o07, kret_0, kx0_0 =>
    bif (A.lt i2 (A.rlen o06)) then
      bif (A.inb i2 (A.rlen o06)) then
        c_173 (A.rsv 4 o06 i2 0) (A.rsr o06 i2 1) (fun r8 =>
          bif (A.not r8) then
            kret_0 false
          else
            spec_ScriptOk_l0 A c_172 c_173 n (A.add .i64 i2 1) o03 o04 o05 o06 o07 kret_0 kx0_0)
      else
        none
    else
      kx0_0 ()
noncomputable def spec_ScriptOk_f (A : PM.Prims) (c_172 : spec_ThingsOk_T) (c_173 : spec_ProgOk_T) (s_Start_Cells : List Int) (s_Start_Map : List Int) (s_Start_Count : Int) (s_Progs : List (List PM.C)) (s_Acts : List (List Int)) (k : (Bool) → PM.R) : PM.R :=
  c_172 s_Start_Cells s_Start_Map s_Start_Count (fun r1 =>
    bif (A.not r1) then
      k false
    else
      bif (A.lt 4 (A.rlen s_Progs)) then
        k false
      else
        bif (A.lt 400 (A.vlen s_Acts)) then
          k false
        else
          spec_ScriptOk_l0 A c_172 c_173 A.fuel 0 s_Start_Cells s_Start_Map s_Start_Count s_Progs s_Acts (fun t2910 =>
            k t2910) (fun _ =>
            k true))
noncomputable def spec_ScriptOk (A : PM.Prims) : spec_ScriptOk_T := spec_ScriptOk_f A (spec_ThingsOk A) (spec_ProgOk A)
noncomputable def spec_ScriptOk_L (A : PM.Prims) (c_172 : spec_ThingsOk_T) (c_173 : spec_ProgOk_T) (n : Nat) : PM.Lam := fun cur σ K =>
  match cur, σ, K with
  | 0, ⟨[(1, .pbox 0 0), (3, .int .i64 i2)], [(0, .box [.arr (.ints 3 .i64 o03), .arr (.ints 3 .i64 o04), .int .i64 o05, .arr (.rows 242 o06), .arr (.vecs 320 3 o07)])]⟩, K => spec_ScriptOk_l0 A c_172 c_173 n i2 o03 o04 o05 o06 o07 (fun t29 => K .ret ⟨[(2, .bool t29)], []⟩) (fun _ => K (.exit 0) ⟨[], []⟩)
  | _, _, _ => none
noncomputable def spec_ScriptOk_E (A : PM.Prims) (c_172 : spec_ThingsOk_T) (c_173 : spec_ProgOk_T) : PM.Env := ⟨[(172, ⟨[], spec_ThingsOk_w c_172, none⟩), (173, ⟨[], spec_ProgOk_w c_173, none⟩)], [], [(0, [1, 3], [2])], [(0, [1]), (1, [1, 19]), (2, [2]), (3, [1, 3]), (4, [1, 3, 24]), (5, [1, 3]), (6, [1, 3, 33]), (7, [2]), (8, [2])], spec_ScriptOk_L A c_172 c_173 A.fuel⟩
theorem spec_ScriptOk_l0_ok (A : PM.Prims) (c_172 : spec_ThingsOk_T) (c_173 : spec_ProgOk_T) (n : Nat) (i2 : Int) (o03 : List Int) (o04 : List Int) (o05 : Int) (o06 : List (List C)) (o07 : List (List Int)) (K : Go.Exit → PM.S → PM.R) : spec_ScriptOk_L A c_172 c_173 (n + 1) 0 ⟨[(1, .pbox 0 0), (3, .int .i64 i2)], [(0, .box [.arr (.ints 3 .i64 o03), .arr (.ints 3 .i64 o04), .int .i64 o05, .arr (.rows 242 o06), .arr (.vecs 320 3 o07)])]⟩ K = PM.roundF A cx (PM.runD A cx (spec_ScriptOk_E A c_172 c_173).inl (spec_ScriptOk_E A c_172 c_173).Γ 3) (spec_ScriptOk_E A c_172 c_173) (spec_ScriptOk_L A c_172 c_173 n) 0 Go.Proofs.Try.f84 ⟨[(1, .pbox 0 0), (3, .int .i64 i2)], [(0, .box [.arr (.ints 3 .i64 o03), .arr (.ints 3 .i64 o04), .int .i64 o05, .arr (.rows 242 o06), .arr (.vecs 320 3 o07)])]⟩ K := by kernel_rfl
theorem spec_ScriptOk_ok (A : PM.Prims) (c_172 : spec_ThingsOk_T) (c_173 : spec_ProgOk_T) (s_Start_Cells : List Int) (s_Start_Map : List Int) (s_Start_Count : Int) (s_Progs : List (List PM.C)) (s_Acts : List (List Int)) (k : PM.V → PM.R) : PM.pfun A cx [] (spec_ScriptOk_E A c_172 c_173) Go.Proofs.Try.f84 [.agg [.arr (.ints 3 .i64 s_Start_Cells), .arr (.ints 3 .i64 s_Start_Map), .int .i64 s_Start_Count, .arr (.rows 242 s_Progs), .arr (.vecs 320 3 s_Acts)]] k = spec_ScriptOk_f A c_172 c_173 s_Start_Cells s_Start_Map s_Start_Count s_Progs s_Acts (fun r0 => k (.bool r0)) := by kernel_rfl

theorem spec_ScriptOk_fn : PM.FnIs Try.prog 84 Try.f84 := .of Try.func84 (by kernel_rfl) (by kernel_rfl)
theorem spec_ScriptOk_g : PM.GOk Try.prog cx 84 ⟨[], spec_ScriptOk_w (spec_ScriptOk PM.std), none⟩ := by
  refine ⟨spec_ScriptOk_fn.enter, fun _ ds k r h => ?_, fun hm => absurd rfl hm, fun _ e => (by cases e)⟩
  change spec_ScriptOk_w (spec_ScriptOk PM.std) ds k = some r at h
  unfold spec_ScriptOk_w at h
  split at h
  · exact PM.pfun_ok (E := spec_ScriptOk_E PM.std (spec_ThingsOk PM.std) (spec_ProgOk PM.std)) (L := fun n => spec_ScriptOk_L PM.std (spec_ThingsOk PM.std) (spec_ProgOk PM.std) n) (N := PM.std.fuel) cx_ok (.cons spec_ThingsOk_g (.cons spec_ProgOk_g .nil)) mixed .nil spec_ScriptOk_fn (by kernel_rfl) ⟨rfl, fun cur σ K => by
      dsimp only [spec_ScriptOk_L]
      split <;> rfl, fun n cur σ K r h => by
      dsimp only [spec_ScriptOk_L] at h
      split at h
      · exact (spec_ScriptOk_l0_ok PM.std (spec_ThingsOk PM.std) (spec_ProgOk PM.std) n _ _ _ _ _ _ K).symm.trans h
      · cases h⟩
      ((spec_ScriptOk_ok PM.std (spec_ThingsOk PM.std) (spec_ProgOk PM.std) _ _ _ _ _ k).trans h)
  · cases h

abbrev impl_isMap_T := (List Int) → ((Bool) → PM.R) → PM.R
noncomputable def impl_isMap_w (c : impl_isMap_T) (ds : List PM.V) (k : PM.V → PM.R) : PM.R :=
  match ds with
  | [.arr (.ints 3 .i64 l)] => c l (fun r0 => k (.bool r0))
  | _ => none
noncomputable def impl_isMap_l0 (A : PM.Prims) (c_134 : impl_within_T) : Nat → (List Int) → (List Int) → (Int) → (Int) → ((Bool) → PM.R) → ((List Int) → PM.R) → PM.R
  | 0, _, _, _, _, _, _ => none
  | n + 1, l1, t52, t63, t74, kret_0, kx0_0 =>
    bif (A.lt t74 t63) then
      bif (A.inb t74 (A.ilen t52)) then
        c_134 (A.iget t52 t74) 0 65536 (fun r5 =>
          bif (A.not r5) then
            kret_0 false
          else
            impl_isMap_l0 A c_134 n l1 t52 t63 (A.add .i64 t74 1) kret_0 kx0_0)
      else
        none
    else
      kx0_0 l1
noncomputable def impl_isMap_f (A : PM.Prims) (c_134 : impl_within_T) (l : List Int) (k : (Bool) → PM.R) : PM.R :=
  impl_isMap_l0 A c_134 A.fuel l l (A.ilen l) 0 (fun t268 =>
    k t268) (fun l79 =>
    k (A.eq (A.ilen l79) 8))
noncomputable def impl_isMap (A : PM.Prims) : impl_isMap_T := impl_isMap_f A (impl_within A)
noncomputable def impl_isMap_L (A : PM.Prims) (c_134 : impl_within_T) (n : Nat) : PM.Lam := fun cur σ K =>
  match cur, σ, K with
  | 0, ⟨[(0, .arr (.ints 3 .i64 l1)), (5, .arr (.ints 3 .i64 t52)), (6, .int .i64 t63), (7, .int .i64 t74)], []⟩, K => impl_isMap_l0 A c_134 n l1 t52 t63 t74 (fun t26 => K .ret ⟨[(2, .bool t26)], []⟩) (fun l7 => K (.exit 0) ⟨[(0, .arr (.ints 3 .i64 l7))], []⟩)
  | _, _, _ => none
noncomputable def impl_isMap_E (A : PM.Prims) (c_134 : impl_within_T) : PM.Env := ⟨[(134, ⟨[], impl_within_w c_134, none⟩)], [], [(0, [0, 5, 6, 7], [0, 2])], [(0, [0]), (1, [0, 5, 6, 7]), (2, [0, 5, 6, 7, 8]), (3, [0, 4, 5, 6, 7]), (4, [0, 5, 6, 7, 13]), (5, [2]), (6, [0, 5, 6, 7]), (7, [2])], impl_isMap_L A c_134 A.fuel⟩
theorem impl_isMap_l0_ok (A : PM.Prims) (c_134 : impl_within_T) (n : Nat) (l1 : List Int) (t52 : List Int) (t63 : Int) (t74 : Int) (K : Go.Exit → PM.S → PM.R) : impl_isMap_L A c_134 (n + 1) 0 ⟨[(0, .arr (.ints 3 .i64 l1)), (5, .arr (.ints 3 .i64 t52)), (6, .int .i64 t63), (7, .int .i64 t74)], []⟩ K = PM.roundF A cx (PM.runD A cx (impl_isMap_E A c_134).inl (impl_isMap_E A c_134).Γ 3) (impl_isMap_E A c_134) (impl_isMap_L A c_134 n) 0 Go.Proofs.Try.f233 ⟨[(0, .arr (.ints 3 .i64 l1)), (5, .arr (.ints 3 .i64 t52)), (6, .int .i64 t63), (7, .int .i64 t74)], []⟩ K := by kernel_rfl
theorem impl_isMap_ok (A : PM.Prims) (c_134 : impl_within_T) (l : List Int) (k : PM.V → PM.R) : PM.pfun A cx [] (impl_isMap_E A c_134) Go.Proofs.Try.f233 [.arr (.ints 3 .i64 l)] k = impl_isMap_f A c_134 l (fun r0 => k (.bool r0)) := by kernel_rfl

theorem impl_isMap_fn : PM.FnIs Try.prog 233 Try.f233 := .of Try.func233 (by kernel_rfl) (by kernel_rfl)
theorem impl_isMap_g : PM.GOk Try.prog cx 233 ⟨[], impl_isMap_w (impl_isMap PM.std), none⟩ := by
  refine ⟨impl_isMap_fn.enter, fun _ ds k r h => ?_, fun hm => absurd rfl hm, fun _ e => (by cases e)⟩
  change impl_isMap_w (impl_isMap PM.std) ds k = some r at h
  unfold impl_isMap_w at h
  split at h
  · exact PM.pfun_ok (E := impl_isMap_E PM.std (impl_within PM.std)) (L := fun n => impl_isMap_L PM.std (impl_within PM.std) n) (N := PM.std.fuel) cx_ok (.cons impl_within_g .nil) mixed .nil impl_isMap_fn (by kernel_rfl) ⟨rfl, fun cur σ K => by
      dsimp only [impl_isMap_L]
      split <;> rfl, fun n cur σ K r h => by
      dsimp only [impl_isMap_L] at h
      split at h
      · exact (impl_isMap_l0_ok PM.std (impl_within PM.std) n _ _ _ _ K).symm.trans h
      · cases h⟩
      ((impl_isMap_ok PM.std (impl_within PM.std) _ k).trans h)
  · cases h

abbrev impl_ThingsOk_T := (List Int) → (List Int) → (Int) → ((Bool) → PM.R) → PM.R
noncomputable def impl_ThingsOk_w (c : impl_ThingsOk_T) (ds : List PM.V) (k : PM.V → PM.R) : PM.R :=
  match ds with
  | [.agg [.arr (.ints 3 .i64 s_Cells), .arr (.ints 3 .i64 s_Map), .int .i64 s_Count]] => c s_Cells s_Map s_Count (fun r0 => k (.bool r0))
  | _ => none
noncomputable def impl_ThingsOk_f (A : PM.Prims) (c_193 : impl_isValue_T) (c_97 : impl_areValues_T) (c_233 : impl_isMap_T) (s_Cells : List Int) (s_Map : List Int) (s_Count : Int) (k : (Bool) → PM.R) : PM.R :=
  c_97 s_Cells 8 (fun r1 =>
    bif r1 then
      c_233 s_Map (fun r2 =>
        bif r2 then
          c_193 s_Count (fun r3 =>
            k r3)
        else
          k false)
    else
      k false)
noncomputable def impl_ThingsOk (A : PM.Prims) : impl_ThingsOk_T := impl_ThingsOk_f A (impl_isValue A) (impl_areValues A) (impl_isMap A)
noncomputable def impl_ThingsOk_L (A : PM.Prims) (c_193 : impl_isValue_T) (c_97 : impl_areValues_T) (c_233 : impl_isMap_T) (n : Nat) : PM.Lam := fun cur σ K =>
  match cur, σ, K with
  | _, _, _ => none
noncomputable def impl_ThingsOk_E (A : PM.Prims) (c_193 : impl_isValue_T) (c_97 : impl_areValues_T) (c_233 : impl_isMap_T) : PM.Env := ⟨[(193, ⟨[], impl_isValue_w c_193, none⟩), (97, ⟨[], impl_areValues_w c_97, none⟩), (233, ⟨[], impl_isMap_w c_233, none⟩)], [], [], [(0, [1]), (1, [2])], impl_ThingsOk_L A c_193 c_97 c_233 A.fuel⟩
theorem impl_ThingsOk_ok (A : PM.Prims) (c_193 : impl_isValue_T) (c_97 : impl_areValues_T) (c_233 : impl_isMap_T) (s_Cells : List Int) (s_Map : List Int) (s_Count : Int) (k : PM.V → PM.R) : PM.pfun A cx [] (impl_ThingsOk_E A c_193 c_97 c_233) Go.Proofs.Try.f177 [.agg [.arr (.ints 3 .i64 s_Cells), .arr (.ints 3 .i64 s_Map), .int .i64 s_Count]] k = impl_ThingsOk_f A c_193 c_97 c_233 s_Cells s_Map s_Count (fun r0 => k (.bool r0)) := by kernel_rfl

theorem impl_ThingsOk_fn : PM.FnIs Try.prog 177 Try.f177 := .of Try.func177 (by kernel_rfl) (by kernel_rfl)
theorem impl_ThingsOk_g : PM.GOk Try.prog cx 177 ⟨[], impl_ThingsOk_w (impl_ThingsOk PM.std), none⟩ := by
  refine ⟨impl_ThingsOk_fn.enter, fun _ ds k r h => ?_, fun hm => absurd rfl hm, fun _ e => (by cases e)⟩
  change impl_ThingsOk_w (impl_ThingsOk PM.std) ds k = some r at h
  unfold impl_ThingsOk_w at h
  split at h
  · exact PM.pfun_ok (E := impl_ThingsOk_E PM.std (impl_isValue PM.std) (impl_areValues PM.std) (impl_isMap PM.std)) (L := fun n => impl_ThingsOk_L PM.std (impl_isValue PM.std) (impl_areValues PM.std) (impl_isMap PM.std) n) (N := PM.std.fuel) cx_ok (.cons impl_isValue_g (.cons impl_areValues_g (.cons impl_isMap_g .nil))) mixed .nil impl_ThingsOk_fn (by kernel_rfl) ⟨rfl, fun _ _ _ => rfl, fun n cur σ K r h => by cases h⟩
      ((impl_ThingsOk_ok PM.std (impl_isValue PM.std) (impl_areValues PM.std) (impl_isMap PM.std) _ _ _ k).trans h)
  · cases h

abbrev impl_HasFork_1_T := (Int) → (Int) → (Int) → (Int) → ((Bool) → PM.R) → PM.R
noncomputable def impl_HasFork_1_w (c : impl_HasFork_1_T) (ds : List PM.V) (k : PM.V → PM.R) : PM.R :=
  match ds with
  | [.agg [.int .i64 o_Kind, .int .i64 o_A, .int .i64 o_B, .int .i64 o_C]] => c o_Kind o_A o_B o_C (fun r0 => k (.bool r0))
  | _ => none
noncomputable def impl_HasFork_1_f (A : PM.Prims) (o_Kind : Int) (o_A : Int) (o_B : Int) (o_C : Int) (k : (Bool) → PM.R) : PM.R :=
  k (A.eq o_Kind 11)
noncomputable def impl_HasFork_1 (A : PM.Prims) : impl_HasFork_1_T := impl_HasFork_1_f A
noncomputable def impl_HasFork_1_L (A : PM.Prims) (n : Nat) : PM.Lam := fun cur σ K =>
  match cur, σ, K with
  | _, _, _ => none
noncomputable def impl_HasFork_1_E (A : PM.Prims) : PM.Env := ⟨[], [], [], [(0, [1]), (1, [2])], impl_HasFork_1_L A A.fuel⟩
theorem impl_HasFork_1_ok (A : PM.Prims) (o_Kind : Int) (o_A : Int) (o_B : Int) (o_C : Int) (k : PM.V → PM.R) : PM.pfun A cx [] (impl_HasFork_1_E A) Go.Proofs.Try.f288 [.agg [.int .i64 o_Kind, .int .i64 o_A, .int .i64 o_B, .int .i64 o_C]] k = impl_HasFork_1_f A o_Kind o_A o_B o_C (fun r0 => k (.bool r0)) := by kernel_rfl

theorem impl_HasFork_1_fn : PM.FnIs Try.prog 288 Try.f288 := .of Try.func288 (by kernel_rfl) (by kernel_rfl)
theorem impl_HasFork_1_g : PM.GOk Try.prog cx 288 ⟨[], impl_HasFork_1_w (impl_HasFork_1 PM.std), none⟩ := by
  refine ⟨impl_HasFork_1_fn.enter, fun _ ds k r h => ?_, fun hm => absurd rfl hm, fun _ e => (by cases e)⟩
  change impl_HasFork_1_w (impl_HasFork_1 PM.std) ds k = some r at h
  unfold impl_HasFork_1_w at h
  split at h
  · exact PM.pfun_ok (E := impl_HasFork_1_E PM.std) (L := fun n => impl_HasFork_1_L PM.std n) (N := PM.std.fuel) cx_ok .nil mixed .nil impl_HasFork_1_fn (by kernel_rfl) ⟨rfl, fun _ _ _ => rfl, fun n cur σ K r h => by cases h⟩
      ((impl_HasFork_1_ok PM.std _ _ _ _ k).trans h)
  · cases h

abbrev slices_IndexFunc___impl_Op_impl_Op__T := (List (List Int)) → ((Int) → PM.R) → PM.R
noncomputable def slices_IndexFunc___impl_Op_impl_Op__w (c : slices_IndexFunc___impl_Op_impl_Op__T) (ds : List PM.V) (k : PM.V → PM.R) : PM.R :=
  match ds with
  | [.arr (.vecs 312 4 s), .func 288 []] => c s (fun r0 => k (.int .i64 r0))
  | _ => none
noncomputable def slices_IndexFunc___impl_Op_impl_Op__l0 (A : PM.Prims) (c_288 : impl_HasFork_1_T) : Nat → (List (List Int)) → (Int) → (Int) → ((Int) → PM.R) → (Unit → PM.R) → PM.R
  | 0, _, _, _, _, _ => none
  | n + 1, s1, t72, t83, kret_0, kx0_0 =>
    bif (A.lt t83 t72) then
      bif (A.inb t83 (A.vlen s1)) then
        c_288 (A.vget s1 t83 0) (A.vget s1 t83 1) (A.vget s1 t83 2) (A.vget s1 t83 3) (fun r4 =>
          bif r4 then
            kret_0 t83
          else
            slices_IndexFunc___impl_Op_impl_Op__l0 A c_288 n s1 t72 (A.add .i64 t83 1) kret_0 kx0_0)
      else
        none
    else
      kx0_0 ()
noncomputable def slices_IndexFunc___impl_Op_impl_Op__f (A : PM.Prims) (c_288 : impl_HasFork_1_T) (s : List (List Int)) (k : (Int) → PM.R) : PM.R :=
  slices_IndexFunc___impl_Op_impl_Op__l0 A c_288 A.fuel s (A.vlen s) 0 (fun t456 =>
    k t456) (fun _ =>
    k (-1))
noncomputable def slices_IndexFunc___impl_Op_impl_Op_ (A : PM.Prims) : slices_IndexFunc___impl_Op_impl_Op__T := slices_IndexFunc___impl_Op_impl_Op__f A (impl_HasFork_1 A)
noncomputable def slices_IndexFunc___impl_Op_impl_Op__L (A : PM.Prims) (c_288 : impl_HasFork_1_T) (n : Nat) : PM.Lam := fun cur σ K =>
  match cur, σ, K with
  | 0, ⟨[(0, .arr (.vecs 312 4 s1)), (1, .func 288 []), (7, .int .i64 t72), (8, .int .i64 t83)], []⟩, K => slices_IndexFunc___impl_Op_impl_Op__l0 A c_288 n s1 t72 t83 (fun t45 => K .ret ⟨[(4, .int .i64 t45)], []⟩) (fun _ => K (.exit 0) ⟨[], []⟩)
  | _, _, _ => none
noncomputable def slices_IndexFunc___impl_Op_impl_Op__E (A : PM.Prims) (c_288 : impl_HasFork_1_T) : PM.Env := ⟨[(288, ⟨[], impl_HasFork_1_w c_288, none⟩)], [], [(0, [0, 1, 7, 8], [4])], [(0, [0, 1]), (1, [0, 1, 7, 8]), (2, [0, 1, 7, 8, 9]), (3, [0, 1, 5, 7, 8]), (4, [0, 1, 5, 7, 8, 16]), (5, [4]), (6, [0, 1, 7, 8]), (7, [4])], slices_IndexFunc___impl_Op_impl_Op__L A c_288 A.fuel⟩
theorem slices_IndexFunc___impl_Op_impl_Op__l0_ok (A : PM.Prims) (c_288 : impl_HasFork_1_T) (n : Nat) (s1 : List (List Int)) (t72 : Int) (t83 : Int) (K : Go.Exit → PM.S → PM.R) : slices_IndexFunc___impl_Op_impl_Op__L A c_288 (n + 1) 0 ⟨[(0, .arr (.vecs 312 4 s1)), (1, .func 288 []), (7, .int .i64 t72), (8, .int .i64 t83)], []⟩ K = PM.roundF A cx (PM.runD A cx (slices_IndexFunc___impl_Op_impl_Op__E A c_288).inl (slices_IndexFunc___impl_Op_impl_Op__E A c_288).Γ 3) (slices_IndexFunc___impl_Op_impl_Op__E A c_288) (slices_IndexFunc___impl_Op_impl_Op__L A c_288 n) 0 Go.Proofs.Try.f321 ⟨[(0, .arr (.vecs 312 4 s1)), (1, .func 288 []), (7, .int .i64 t72), (8, .int .i64 t83)], []⟩ K := by kernel_rfl
theorem slices_IndexFunc___impl_Op_impl_Op__ok (A : PM.Prims) (c_288 : impl_HasFork_1_T) (s : List (List Int)) (k : PM.V → PM.R) : PM.pfun A cx [] (slices_IndexFunc___impl_Op_impl_Op__E A c_288) Go.Proofs.Try.f321 [.arr (.vecs 312 4 s), .func 288 []] k = slices_IndexFunc___impl_Op_impl_Op__f A c_288 s (fun r0 => k (.int .i64 r0)) := by kernel_rfl

theorem slices_IndexFunc___impl_Op_impl_Op__fn : PM.FnIs Try.prog 321 Try.f321 := .of Try.func321 (by kernel_rfl) (by kernel_rfl)
theorem slices_IndexFunc___impl_Op_impl_Op__g : PM.GOk Try.prog cx 321 ⟨[], slices_IndexFunc___impl_Op_impl_Op__w (slices_IndexFunc___impl_Op_impl_Op_ PM.std), none⟩ := by
  refine ⟨slices_IndexFunc___impl_Op_impl_Op__fn.enter, fun _ ds k r h => ?_, fun hm => absurd rfl hm, fun _ e => (by cases e)⟩
  change slices_IndexFunc___impl_Op_impl_Op__w (slices_IndexFunc___impl_Op_impl_Op_ PM.std) ds k = some r at h
  unfold slices_IndexFunc___impl_Op_impl_Op__w at h
  split at h
  · exact PM.pfun_ok (E := slices_IndexFunc___impl_Op_impl_Op__E PM.std (impl_HasFork_1 PM.std)) (L := fun n => slices_IndexFunc___impl_Op_impl_Op__L PM.std (impl_HasFork_1 PM.std) n) (N := PM.std.fuel) cx_ok (.cons impl_HasFork_1_g .nil) mixed .nil slices_IndexFunc___impl_Op_impl_Op__fn (by kernel_rfl) ⟨rfl, fun cur σ K => by
      dsimp only [slices_IndexFunc___impl_Op_impl_Op__L]
      split <;> rfl, fun n cur σ K r h => by
      dsimp only [slices_IndexFunc___impl_Op_impl_Op__L] at h
      split at h
      · exact (slices_IndexFunc___impl_Op_impl_Op__l0_ok PM.std (impl_HasFork_1 PM.std) n _ _ _ K).symm.trans h
      · cases h⟩
      ((slices_IndexFunc___impl_Op_impl_Op__ok PM.std (impl_HasFork_1 PM.std) _ k).trans h)
  · cases h

abbrev slices_ContainsFunc___impl_Op_impl_Op__T := (List (List Int)) → ((Bool) → PM.R) → PM.R
noncomputable def slices_ContainsFunc___impl_Op_impl_Op__w (c : slices_ContainsFunc___impl_Op_impl_Op__T) (ds : List PM.V) (k : PM.V → PM.R) : PM.R :=
  match ds with
  | [.arr (.vecs 312 4 s), .func 288 []] => c s (fun r0 => k (.bool r0))
  | _ => none
noncomputable def slices_ContainsFunc___impl_Op_impl_Op__f (A : PM.Prims) (c_288 : impl_HasFork_1_T) (c_321 : slices_IndexFunc___impl_Op_impl_Op__T) (s : List (List Int)) (k : (Bool) → PM.R) : PM.R :=
  c_321 s (fun r1 =>
    k (A.le 0 r1))
noncomputable def slices_ContainsFunc___impl_Op_impl_Op_ (A : PM.Prims) : slices_ContainsFunc___impl_Op_impl_Op__T := slices_ContainsFunc___impl_Op_impl_Op__f A (impl_HasFork_1 A) (slices_IndexFunc___impl_Op_impl_Op_ A)
noncomputable def slices_ContainsFunc___impl_Op_impl_Op__L (A : PM.Prims) (c_288 : impl_HasFork_1_T) (c_321 : slices_IndexFunc___impl_Op_impl_Op__T) (n : Nat) : PM.Lam := fun cur σ K =>
  match cur, σ, K with
  | _, _, _ => none
noncomputable def slices_ContainsFunc___impl_Op_impl_Op__E (A : PM.Prims) (c_288 : impl_HasFork_1_T) (c_321 : slices_IndexFunc___impl_Op_impl_Op__T) : PM.Env := ⟨[(288, ⟨[], impl_HasFork_1_w c_288, none⟩), (321, ⟨[], slices_IndexFunc___impl_Op_impl_Op__w c_321, none⟩)], [], [], [(0, [0, 1]), (1, [4])], slices_ContainsFunc___impl_Op_impl_Op__L A c_288 c_321 A.fuel⟩
theorem slices_ContainsFunc___impl_Op_impl_Op__ok (A : PM.Prims) (c_288 : impl_HasFork_1_T) (c_321 : slices_IndexFunc___impl_Op_impl_Op__T) (s : List (List Int)) (k : PM.V → PM.R) : PM.pfun A cx [] (slices_ContainsFunc___impl_Op_impl_Op__E A c_288 c_321) Go.Proofs.Try.f287 [.arr (.vecs 312 4 s), .func 288 []] k = slices_ContainsFunc___impl_Op_impl_Op__f A c_288 c_321 s (fun r0 => k (.bool r0)) := by kernel_rfl

theorem slices_ContainsFunc___impl_Op_impl_Op__fn : PM.FnIs Try.prog 287 Try.f287 := .of Try.func287 (by kernel_rfl) (by kernel_rfl)
theorem slices_ContainsFunc___impl_Op_impl_Op__g : PM.GOk Try.prog cx 287 ⟨[], slices_ContainsFunc___impl_Op_impl_Op__w (slices_ContainsFunc___impl_Op_impl_Op_ PM.std), none⟩ := by
  refine ⟨slices_ContainsFunc___impl_Op_impl_Op__fn.enter, fun _ ds k r h => ?_, fun hm => absurd rfl hm, fun _ e => (by cases e)⟩
  change slices_ContainsFunc___impl_Op_impl_Op__w (slices_ContainsFunc___impl_Op_impl_Op_ PM.std) ds k = some r at h
  unfold slices_ContainsFunc___impl_Op_impl_Op__w at h
  split at h
  · exact PM.pfun_ok (E := slices_ContainsFunc___impl_Op_impl_Op__E PM.std (impl_HasFork_1 PM.std) (slices_IndexFunc___impl_Op_impl_Op_ PM.std)) (L := fun n => slices_ContainsFunc___impl_Op_impl_Op__L PM.std (impl_HasFork_1 PM.std) (slices_IndexFunc___impl_Op_impl_Op_ PM.std) n) (N := PM.std.fuel) cx_ok (.cons impl_HasFork_1_g (.cons slices_IndexFunc___impl_Op_impl_Op__g .nil)) mixed .nil slices_ContainsFunc___impl_Op_impl_Op__fn (by kernel_rfl) ⟨rfl, fun _ _ _ => rfl, fun n cur σ K r h => by cases h⟩
      ((slices_ContainsFunc___impl_Op_impl_Op__ok PM.std (impl_HasFork_1 PM.std) (slices_IndexFunc___impl_Op_impl_Op_ PM.std) _ k).trans h)
  · cases h

abbrev impl_HasFork_T := (List (List Int)) → ((Bool) → PM.R) → PM.R
noncomputable def impl_HasFork_w (c : impl_HasFork_T) (ds : List PM.V) (k : PM.V → PM.R) : PM.R :=
  match ds with
  | [.arr (.vecs 312 4 code)] => c code (fun r0 => k (.bool r0))
  | _ => none
noncomputable def impl_HasFork_f (A : PM.Prims) (c_287 : slices_ContainsFunc___impl_Op_impl_Op__T) (code : List (List Int)) (k : (Bool) → PM.R) : PM.R :=
  c_287 code (fun r1 =>
    k r1)
noncomputable def impl_HasFork (A : PM.Prims) : impl_HasFork_T := impl_HasFork_f A (slices_ContainsFunc___impl_Op_impl_Op_ A)
noncomputable def impl_HasFork_L (A : PM.Prims) (c_287 : slices_ContainsFunc___impl_Op_impl_Op__T) (n : Nat) : PM.Lam := fun cur σ K =>
  match cur, σ, K with
  | _, _, _ => none
noncomputable def impl_HasFork_E (A : PM.Prims) (c_287 : slices_ContainsFunc___impl_Op_impl_Op__T) : PM.Env := ⟨[(287, ⟨[], slices_ContainsFunc___impl_Op_impl_Op__w c_287, none⟩)], [], [], [(0, [0]), (1, [2])], impl_HasFork_L A c_287 A.fuel⟩
theorem impl_HasFork_ok (A : PM.Prims) (c_287 : slices_ContainsFunc___impl_Op_impl_Op__T) (code : List (List Int)) (k : PM.V → PM.R) : PM.pfun A cx [] (impl_HasFork_E A c_287) Go.Proofs.Try.f235 [.arr (.vecs 312 4 code)] k = impl_HasFork_f A c_287 code (fun r0 => k (.bool r0)) := by kernel_rfl

theorem impl_HasFork_fn : PM.FnIs Try.prog 235 Try.f235 := .of Try.func235 (by kernel_rfl) (by kernel_rfl)
theorem impl_HasFork_g : PM.GOk Try.prog cx 235 ⟨[], impl_HasFork_w (impl_HasFork PM.std), none⟩ := by
  refine ⟨impl_HasFork_fn.enter, fun _ ds k r h => ?_, fun hm => absurd rfl hm, fun _ e => (by cases e)⟩
  change impl_HasFork_w (impl_HasFork PM.std) ds k = some r at h
  unfold impl_HasFork_w at h
  split at h
  · exact PM.pfun_ok (E := impl_HasFork_E PM.std (slices_ContainsFunc___impl_Op_impl_Op_ PM.std)) (L := fun n => impl_HasFork_L PM.std (slices_ContainsFunc___impl_Op_impl_Op_ PM.std) n) (N := PM.std.fuel) cx_ok (.cons slices_ContainsFunc___impl_Op_impl_Op__g .nil) mixed .nil impl_HasFork_fn (by kernel_rfl) ⟨rfl, fun _ _ _ => rfl, fun n cur σ K r h => by cases h⟩
      ((impl_HasFork_ok PM.std (slices_ContainsFunc___impl_Op_impl_Op_ PM.std) _ k).trans h)
  · cases h

abbrev impl_ProgOk_T := (List (List Int)) → (List (List PM.C)) → ((Bool) → PM.R) → PM.R
noncomputable def impl_ProgOk_w (c : impl_ProgOk_T) (ds : List PM.V) (k : PM.V → PM.R) : PM.R :=
  match ds with
  | [.agg [.arr (.vecs 312 4 p_Code), .arr (.rows 233 p_Kids)]] => c p_Code p_Kids (fun r0 => k (.bool r0))
  | _ => none
noncomputable def impl_ProgOk_l0 (A : PM.Prims) (c_228 : impl_CodeOk_T) (c_166 : impl_KidOk_T) (c_235 : impl_HasFork_T) : Nat → (List (List C)) → (Int) → (Int) → (List (List Int)) → (List (List C)) → ((Bool) → PM.R) → ((List (List Int)) → (List (List C)) → PM.R) → PM.R
  | 0, _, _, _, _, _, _, _ => none
  | n + 1, t61, t72, t83, o04, o05, kret_0, kx0_0 =>
    bif (A.lt t83 t72) then
      bif (A.inb t83 (A.rlen t61)) then
        c_166 (A.rsv 4 t61 t83 0) (fun r6 =>
          bif (A.not r6) then
            kret_0 false
          else
            impl_ProgOk_l0 A c_228 c_166 c_235 n t61 t72 (A.add .i64 t83 1) o04 o05 kret_0 kx0_0)
      else
        none
    else
      kx0_0 o04 o05
noncomputable def impl_ProgOk_f (A : PM.Prims) (c_228 : impl_CodeOk_T) (c_166 : impl_KidOk_T) (c_235 : impl_HasFork_T) (p_Code : List (List Int)) (p_Kids : List (List PM.C)) (k : (Bool) → PM.R) : PM.R :=
  impl_ProgOk_l0 A c_228 c_166 c_235 A.fuel p_Kids (A.rlen p_Kids) 0 p_Code p_Kids (fun t2710 =>
    k t2710) (fun o0811 o0912 =>
    c_228 o0811 (fun r13 =>
      bif r13 then
        bif (A.le (A.rlen o0912) 3) then
          c_235 o0811 (fun r14 =>
            k (A.beq r14 (A.lt 0 (A.rlen o0912))))
        else
          k false
      else
        k false))
noncomputable def impl_ProgOk (A : PM.Prims) : impl_ProgOk_T := impl_ProgOk_f A (impl_CodeOk A) (impl_KidOk A) (impl_HasFork A)
noncomputable def impl_ProgOk_L (A : PM.Prims) (c_228 : impl_CodeOk_T) (c_166 : impl_KidOk_T) (c_235 : impl_HasFork_T) (n : Nat) : PM.Lam := fun cur σ K =>
  match cur, σ, K with
  | 0, ⟨[(1, .pbox 0 0), (6, .arr (.rows 233 t61)), (7, .int .i64 t72), (8, .int .i64 t83)], [(0, .box [.arr (.vecs 312 4 o04), .arr (.rows 233 o05)])]⟩, K => impl_ProgOk_l0 A c_228 c_166 c_235 n t61 t72 t83 o04 o05 (fun t27 => K .ret ⟨[(2, .bool t27)], []⟩) (fun o08 o09 => K (.exit 0) ⟨[(1, .pbox 0 0)], [(0, .box [.arr (.vecs 312 4 o08), .arr (.rows 233 o09)])]⟩)
  | _, _, _ => none
noncomputable def impl_ProgOk_E (A : PM.Prims) (c_228 : impl_CodeOk_T) (c_166 : impl_KidOk_T) (c_235 : impl_HasFork_T) : PM.Env := ⟨[(228, ⟨[], impl_CodeOk_w c_228, none⟩), (166, ⟨[], impl_KidOk_w c_166, none⟩), (235, ⟨[], impl_HasFork_w c_235, none⟩)], [], [(0, [1, 6, 7, 8], [1, 2])], [(0, [1]), (1, [1, 6, 7, 8]), (2, [1, 6, 7, 8, 9]), (3, [1, 4, 6, 7, 8]), (4, [1, 6, 7, 8, 15]), (5, [2]), (6, [1, 6, 7, 8]), (7, [2])], impl_ProgOk_L A c_228 c_166 c_235 A.fuel⟩
theorem impl_ProgOk_l0_ok (A : PM.Prims) (c_228 : impl_CodeOk_T) (c_166 : impl_KidOk_T) (c_235 : impl_HasFork_T) (n : Nat) (t61 : List (List C)) (t72 : Int) (t83 : Int) (o04 : List (List Int)) (o05 : List (List C)) (K : Go.Exit → PM.S → PM.R) : impl_ProgOk_L A c_228 c_166 c_235 (n + 1) 0 ⟨[(1, .pbox 0 0), (6, .arr (.rows 233 t61)), (7, .int .i64 t72), (8, .int .i64 t83)], [(0, .box [.arr (.vecs 312 4 o04), .arr (.rows 233 o05)])]⟩ K = PM.roundF A cx (PM.runD A cx (impl_ProgOk_E A c_228 c_166 c_235).inl (impl_ProgOk_E A c_228 c_166 c_235).Γ 3) (impl_ProgOk_E A c_228 c_166 c_235) (impl_ProgOk_L A c_228 c_166 c_235 n) 0 Go.Proofs.Try.f180 ⟨[(1, .pbox 0 0), (6, .arr (.rows 233 t61)), (7, .int .i64 t72), (8, .int .i64 t83)], [(0, .box [.arr (.vecs 312 4 o04), .arr (.rows 233 o05)])]⟩ K := by kernel_rfl
theorem impl_ProgOk_ok (A : PM.Prims) (c_228 : impl_CodeOk_T) (c_166 : impl_KidOk_T) (c_235 : impl_HasFork_T) (p_Code : List (List Int)) (p_Kids : List (List PM.C)) (k : PM.V → PM.R) : PM.pfun A cx [] (impl_ProgOk_E A c_228 c_166 c_235) Go.Proofs.Try.f180 [.agg [.arr (.vecs 312 4 p_Code), .arr (.rows 233 p_Kids)]] k = impl_ProgOk_f A c_228 c_166 c_235 p_Code p_Kids (fun r0 => k (.bool r0)) := by kernel_rfl

theorem impl_ProgOk_fn : PM.FnIs Try.prog 180 Try.f180 := .of Try.func180 (by kernel_rfl) (by kernel_rfl)
theorem impl_ProgOk_g : PM.GOk Try.prog cx 180 ⟨[], impl_ProgOk_w (impl_ProgOk PM.std), none⟩ := by
  refine ⟨impl_ProgOk_fn.enter, fun _ ds k r h => ?_, fun hm => absurd rfl hm, fun _ e => (by cases e)⟩
  change impl_ProgOk_w (impl_ProgOk PM.std) ds k = some r at h
  unfold impl_ProgOk_w at h
  split at h
  · exact PM.pfun_ok (E := impl_ProgOk_E PM.std (impl_CodeOk PM.std) (impl_KidOk PM.std) (impl_HasFork PM.std)) (L := fun n => impl_ProgOk_L PM.std (impl_CodeOk PM.std) (impl_KidOk PM.std) (impl_HasFork PM.std) n) (N := PM.std.fuel) cx_ok (.cons impl_CodeOk_g (.cons impl_KidOk_g (.cons impl_HasFork_g .nil))) mixed .nil impl_ProgOk_fn (by kernel_rfl) ⟨rfl, fun cur σ K => by
      dsimp only [impl_ProgOk_L]
      split <;> rfl, fun n cur σ K r h => by
      dsimp only [impl_ProgOk_L] at h
      split at h
      · exact (impl_ProgOk_l0_ok PM.std (impl_CodeOk PM.std) (impl_KidOk PM.std) (impl_HasFork PM.std) n _ _ _ _ _ K).symm.trans h
      · cases h⟩
      ((impl_ProgOk_ok PM.std (impl_CodeOk PM.std) (impl_KidOk PM.std) (impl_HasFork PM.std) _ _ k).trans h)
  · cases h

abbrev impl_ScriptOk_1_T := (List (List Int)) → (List (List PM.C)) → ((Bool) → PM.R) → PM.R
noncomputable def impl_ScriptOk_1_w (c : impl_ScriptOk_1_T) (ds : List PM.V) (k : PM.V → PM.R) : PM.R :=
  match ds with
  | [.agg [.arr (.vecs 312 4 p_Code), .arr (.rows 233 p_Kids)]] => c p_Code p_Kids (fun r0 => k (.bool r0))
  | _ => none
noncomputable def impl_ScriptOk_1_f (A : PM.Prims) (c_180 : impl_ProgOk_T) (p_Code : List (List Int)) (p_Kids : List (List PM.C)) (k : (Bool) → PM.R) : PM.R :=
  c_180 p_Code p_Kids (fun r1 =>
    k (A.not r1))
noncomputable def impl_ScriptOk_1 (A : PM.Prims) : impl_ScriptOk_1_T := impl_ScriptOk_1_f A (impl_ProgOk A)
noncomputable def impl_ScriptOk_1_L (A : PM.Prims) (c_180 : impl_ProgOk_T) (n : Nat) : PM.Lam := fun cur σ K =>
  match cur, σ, K with
  | _, _, _ => none
noncomputable def impl_ScriptOk_1_E (A : PM.Prims) (c_180 : impl_ProgOk_T) : PM.Env := ⟨[(180, ⟨[], impl_ProgOk_w c_180, none⟩)], [], [], [(0, [1]), (1, [2])], impl_ScriptOk_1_L A c_180 A.fuel⟩
theorem impl_ScriptOk_1_ok (A : PM.Prims) (c_180 : impl_ProgOk_T) (p_Code : List (List Int)) (p_Kids : List (List PM.C)) (k : PM.V → PM.R) : PM.pfun A cx [] (impl_ScriptOk_1_E A c_180) Go.Proofs.Try.f179 [.agg [.arr (.vecs 312 4 p_Code), .arr (.rows 233 p_Kids)]] k = impl_ScriptOk_1_f A c_180 p_Code p_Kids (fun r0 => k (.bool r0)) := by kernel_rfl

theorem impl_ScriptOk_1_fn : PM.FnIs Try.prog 179 Try.f179 := .of Try.func179 (by kernel_rfl) (by kernel_rfl)
theorem impl_ScriptOk_1_g : PM.GOk Try.prog cx 179 ⟨[], impl_ScriptOk_1_w (impl_ScriptOk_1 PM.std), none⟩ := by
  refine ⟨impl_ScriptOk_1_fn.enter, fun _ ds k r h => ?_, fun hm => absurd rfl hm, fun _ e => (by cases e)⟩
  change impl_ScriptOk_1_w (impl_ScriptOk_1 PM.std) ds k = some r at h
  unfold impl_ScriptOk_1_w at h
  split at h
  · exact PM.pfun_ok (E := impl_ScriptOk_1_E PM.std (impl_ProgOk PM.std)) (L := fun n => impl_ScriptOk_1_L PM.std (impl_ProgOk PM.std) n) (N := PM.std.fuel) cx_ok (.cons impl_ProgOk_g .nil) mixed .nil impl_ScriptOk_1_fn (by kernel_rfl) ⟨rfl, fun _ _ _ => rfl, fun n cur σ K r h => by cases h⟩
      ((impl_ScriptOk_1_ok PM.std (impl_ProgOk PM.std) _ _ k).trans h)
  · cases h

abbrev slices_IndexFunc___impl_Prog_impl_Prog__T := (List (List PM.C)) → ((Int) → PM.R) → PM.R
noncomputable def slices_IndexFunc___impl_Prog_impl_Prog__w (c : slices_IndexFunc___impl_Prog_impl_Prog__T) (ds : List PM.V) (k : PM.V → PM.R) : PM.R :=
  match ds with
  | [.arr (.rows 242 s), .func 179 []] => c s (fun r0 => k (.int .i64 r0))
  | _ => none
noncomputable def slices_IndexFunc___impl_Prog_impl_Prog__l0 (A : PM.Prims) (c_179 : impl_ScriptOk_1_T) : Nat → (List (List C)) → (Int) → (Int) → ((Int) → PM.R) → (Unit → PM.R) → PM.R
  | 0, _, _, _, _, _ => none
  | n + 1, s1, t72, t83, kret_0, kx0_0 =>
    bif (A.lt t83 t72) then
      bif (A.inb t83 (A.rlen s1)) then
        c_179 (A.rsv 4 s1 t83 0) (A.rsr s1 t83 1) (fun r4 =>
          bif r4 then
            kret_0 t83
          else
            slices_IndexFunc___impl_Prog_impl_Prog__l0 A c_179 n s1 t72 (A.add .i64 t83 1) kret_0 kx0_0)
      else
        none
    else
      kx0_0 ()
noncomputable def slices_IndexFunc___impl_Prog_impl_Prog__f (A : PM.Prims) (c_179 : impl_ScriptOk_1_T) (s : List (List PM.C)) (k : (Int) → PM.R) : PM.R :=
  slices_IndexFunc___impl_Prog_impl_Prog__l0 A c_179 A.fuel s (A.rlen s) 0 (fun t456 =>
    k t456) (fun _ =>
    k (-1))
noncomputable def slices_IndexFunc___impl_Prog_impl_Prog_ (A : PM.Prims) : slices_IndexFunc___impl_Prog_impl_Prog__T := slices_IndexFunc___impl_Prog_impl_Prog__f A (impl_ScriptOk_1 A)
noncomputable def slices_IndexFunc___impl_Prog_impl_Prog__L (A : PM.Prims) (c_179 : impl_ScriptOk_1_T) (n : Nat) : PM.Lam := fun cur σ K =>
  match cur, σ, K with
  | 0, ⟨[(0, .arr (.rows 242 s1)), (1, .func 179 []), (7, .int .i64 t72), (8, .int .i64 t83)], []⟩, K => slices_IndexFunc___impl_Prog_impl_Prog__l0 A c_179 n s1 t72 t83 (fun t45 => K .ret ⟨[(4, .int .i64 t45)], []⟩) (fun _ => K (.exit 0) ⟨[], []⟩)
  | _, _, _ => none
noncomputable def slices_IndexFunc___impl_Prog_impl_Prog__E (A : PM.Prims) (c_179 : impl_ScriptOk_1_T) : PM.Env := ⟨[(179, ⟨[], impl_ScriptOk_1_w c_179, none⟩)], [], [(0, [0, 1, 7, 8], [4])], [(0, [0, 1]), (1, [0, 1, 7, 8]), (2, [0, 1, 7, 8, 9]), (3, [0, 1, 5, 7, 8]), (4, [0, 1, 5, 7, 8, 16]), (5, [4]), (6, [0, 1, 7, 8]), (7, [4])], slices_IndexFunc___impl_Prog_impl_Prog__L A c_179 A.fuel⟩
theorem slices_IndexFunc___impl_Prog_impl_Prog__l0_ok (A : PM.Prims) (c_179 : impl_ScriptOk_1_T) (n : Nat) (s1 : List (List C)) (t72 : Int) (t83 : Int) (K : Go.Exit → PM.S → PM.R) : slices_IndexFunc___impl_Prog_impl_Prog__L A c_179 (n + 1) 0 ⟨[(0, .arr (.rows 242 s1)), (1, .func 179 []), (7, .int .i64 t72), (8, .int .i64 t83)], []⟩ K = PM.roundF A cx (PM.runD A cx (slices_IndexFunc___impl_Prog_impl_Prog__E A c_179).inl (slices_IndexFunc___impl_Prog_impl_Prog__E A c_179).Γ 3) (slices_IndexFunc___impl_Prog_impl_Prog__E A c_179) (slices_IndexFunc___impl_Prog_impl_Prog__L A c_179 n) 0 Go.Proofs.Try.f234 ⟨[(0, .arr (.rows 242 s1)), (1, .func 179 []), (7, .int .i64 t72), (8, .int .i64 t83)], []⟩ K := by kernel_rfl
theorem slices_IndexFunc___impl_Prog_impl_Prog__ok (A : PM.Prims) (c_179 : impl_ScriptOk_1_T) (s : List (List PM.C)) (k : PM.V → PM.R) : PM.pfun A cx [] (slices_IndexFunc___impl_Prog_impl_Prog__E A c_179) Go.Proofs.Try.f234 [.arr (.rows 242 s), .func 179 []] k = slices_IndexFunc___impl_Prog_impl_Prog__f A c_179 s (fun r0 => k (.int .i64 r0)) := by kernel_rfl

theorem slices_IndexFunc___impl_Prog_impl_Prog__fn : PM.FnIs Try.prog 234 Try.f234 := .of Try.func234 (by kernel_rfl) (by kernel_rfl)
theorem slices_IndexFunc___impl_Prog_impl_Prog__g : PM.GOk Try.prog cx 234 ⟨[], slices_IndexFunc___impl_Prog_impl_Prog__w (slices_IndexFunc___impl_Prog_impl_Prog_ PM.std), none⟩ := by
  refine ⟨slices_IndexFunc___impl_Prog_impl_Prog__fn.enter, fun _ ds k r h => ?_, fun hm => absurd rfl hm, fun _ e => (by cases e)⟩
  change slices_IndexFunc___impl_Prog_impl_Prog__w (slices_IndexFunc___impl_Prog_impl_Prog_ PM.std) ds k = some r at h
  unfold slices_IndexFunc___impl_Prog_impl_Prog__w at h
  split at h
  · exact PM.pfun_ok (E := slices_IndexFunc___impl_Prog_impl_Prog__E PM.std (impl_ScriptOk_1 PM.std)) (L := fun n => slices_IndexFunc___impl_Prog_impl_Prog__L PM.std (impl_ScriptOk_1 PM.std) n) (N := PM.std.fuel) cx_ok (.cons impl_ScriptOk_1_g .nil) mixed .nil slices_IndexFunc___impl_Prog_impl_Prog__fn (by kernel_rfl) ⟨rfl, fun cur σ K => by
      dsimp only [slices_IndexFunc___impl_Prog_impl_Prog__L]
      split <;> rfl, fun n cur σ K r h => by
      dsimp only [slices_IndexFunc___impl_Prog_impl_Prog__L] at h
      split at h
      · exact (slices_IndexFunc___impl_Prog_impl_Prog__l0_ok PM.std (impl_ScriptOk_1 PM.std) n _ _ _ K).symm.trans h
      · cases h⟩
      ((slices_IndexFunc___impl_Prog_impl_Prog__ok PM.std (impl_ScriptOk_1 PM.std) _ k).trans h)
  · cases h

abbrev slices_ContainsFunc___impl_Prog_impl_Prog__T := (List (List PM.C)) → ((Bool) → PM.R) → PM.R
noncomputable def slices_ContainsFunc___impl_Prog_impl_Prog__w (c : slices_ContainsFunc___impl_Prog_impl_Prog__T) (ds : List PM.V) (k : PM.V → PM.R) : PM.R :=
  match ds with
  | [.arr (.rows 242 s), .func 179 []] => c s (fun r0 => k (.bool r0))
  | _ => none
noncomputable def slices_ContainsFunc___impl_Prog_impl_Prog__f (A : PM.Prims) (c_179 : impl_ScriptOk_1_T) (c_234 : slices_IndexFunc___impl_Prog_impl_Prog__T) (s : List (List PM.C)) (k : (Bool) → PM.R) : PM.R :=
  c_234 s (fun r1 =>
    k (A.le 0 r1))
noncomputable def slices_ContainsFunc___impl_Prog_impl_Prog_ (A : PM.Prims) : slices_ContainsFunc___impl_Prog_impl_Prog__T := slices_ContainsFunc___impl_Prog_impl_Prog__f A (impl_ScriptOk_1 A) (slices_IndexFunc___impl_Prog_impl_Prog_ A)
noncomputable def slices_ContainsFunc___impl_Prog_impl_Prog__L (A : PM.Prims) (c_179 : impl_ScriptOk_1_T) (c_234 : slices_IndexFunc___impl_Prog_impl_Prog__T) (n : Nat) : PM.Lam := fun cur σ K =>
  match cur, σ, K with
  | _, _, _ => none
noncomputable def slices_ContainsFunc___impl_Prog_impl_Prog__E (A : PM.Prims) (c_179 : impl_ScriptOk_1_T) (c_234 : slices_IndexFunc___impl_Prog_impl_Prog__T) : PM.Env := ⟨[(179, ⟨[], impl_ScriptOk_1_w c_179, none⟩), (234, ⟨[], slices_IndexFunc___impl_Prog_impl_Prog__w c_234, none⟩)], [], [], [(0, [0, 1]), (1, [4])], slices_ContainsFunc___impl_Prog_impl_Prog__L A c_179 c_234 A.fuel⟩
theorem slices_ContainsFunc___impl_Prog_impl_Prog__ok (A : PM.Prims) (c_179 : impl_ScriptOk_1_T) (c_234 : slices_IndexFunc___impl_Prog_impl_Prog__T) (s : List (List PM.C)) (k : PM.V → PM.R) : PM.pfun A cx [] (slices_ContainsFunc___impl_Prog_impl_Prog__E A c_179 c_234) Go.Proofs.Try.f178 [.arr (.rows 242 s), .func 179 []] k = slices_ContainsFunc___impl_Prog_impl_Prog__f A c_179 c_234 s (fun r0 => k (.bool r0)) := by kernel_rfl

theorem slices_ContainsFunc___impl_Prog_impl_Prog__fn : PM.FnIs Try.prog 178 Try.f178 := .of Try.func178 (by kernel_rfl) (by kernel_rfl)
theorem slices_ContainsFunc___impl_Prog_impl_Prog__g : PM.GOk Try.prog cx 178 ⟨[], slices_ContainsFunc___impl_Prog_impl_Prog__w (slices_ContainsFunc___impl_Prog_impl_Prog_ PM.std), none⟩ := by
  refine ⟨slices_ContainsFunc___impl_Prog_impl_Prog__fn.enter, fun _ ds k r h => ?_, fun hm => absurd rfl hm, fun _ e => (by cases e)⟩
  change slices_ContainsFunc___impl_Prog_impl_Prog__w (slices_ContainsFunc___impl_Prog_impl_Prog_ PM.std) ds k = some r at h
  unfold slices_ContainsFunc___impl_Prog_impl_Prog__w at h
  split at h
  · exact PM.pfun_ok (E := slices_ContainsFunc___impl_Prog_impl_Prog__E PM.std (impl_ScriptOk_1 PM.std) (slices_IndexFunc___impl_Prog_impl_Prog_ PM.std)) (L := fun n => slices_ContainsFunc___impl_Prog_impl_Prog__L PM.std (impl_ScriptOk_1 PM.std) (slices_IndexFunc___impl_Prog_impl_Prog_ PM.std) n) (N := PM.std.fuel) cx_ok (.cons impl_ScriptOk_1_g (.cons slices_IndexFunc___impl_Prog_impl_Prog__g .nil)) mixed .nil slices_ContainsFunc___impl_Prog_impl_Prog__fn (by kernel_rfl) ⟨rfl, fun _ _ _ => rfl, fun n cur σ K r h => by cases h⟩
      ((slices_ContainsFunc___impl_Prog_impl_Prog__ok PM.std (impl_ScriptOk_1 PM.std) (slices_IndexFunc___impl_Prog_impl_Prog_ PM.std) _ k).trans h)
  · cases h

abbrev impl_ScriptOk_T := (List Int) → (List Int) → (Int) → (List (List PM.C)) → (List (List Int)) → ((Bool) → PM.R) → PM.R
noncomputable def impl_ScriptOk_w (c : impl_ScriptOk_T) (ds : List PM.V) (k : PM.V → PM.R) : PM.R :=
  match ds with
  | [.agg [.arr (.ints 3 .i64 s_Start_Cells), .arr (.ints 3 .i64 s_Start_Map), .int .i64 s_Start_Count, .arr (.rows 242 s_Progs), .arr (.vecs 320 3 s_Acts)]] => c s_Start_Cells s_Start_Map s_Start_Count s_Progs s_Acts (fun r0 => k (.bool r0))
  | _ => none
noncomputable def impl_ScriptOk_f (A : PM.Prims) (c_177 : impl_ThingsOk_T) (c_178 : slices_ContainsFunc___impl_Prog_impl_Prog__T) (s_Start_Cells : List Int) (s_Start_Map : List Int) (s_Start_Count : Int) (s_Progs : List (List PM.C)) (s_Acts : List (List Int)) (k : (Bool) → PM.R) : PM.R :=
  c_177 s_Start_Cells s_Start_Map s_Start_Count (fun r1 =>
    bif r1 then
      bif (A.le (A.rlen s_Progs) 4) then
        bif (A.le (A.vlen s_Acts) 400) then
          c_178 s_Progs (fun r2 =>
            k (A.not r2))
        else
          k false
      else
        k false
    else
      k false)
noncomputable def impl_ScriptOk (A : PM.Prims) : impl_ScriptOk_T := impl_ScriptOk_f A (impl_ThingsOk A) (slices_ContainsFunc___impl_Prog_impl_Prog_ A)
noncomputable def impl_ScriptOk_L (A : PM.Prims) (c_177 : impl_ThingsOk_T) (c_178 : slices_ContainsFunc___impl_Prog_impl_Prog__T) (n : Nat) : PM.Lam := fun cur σ K =>
  match cur, σ, K with
  | _, _, _ => none
noncomputable def impl_ScriptOk_E (A : PM.Prims) (c_177 : impl_ThingsOk_T) (c_178 : slices_ContainsFunc___impl_Prog_impl_Prog__T) : PM.Env := ⟨[(177, ⟨[], impl_ThingsOk_w c_177, none⟩), (178, ⟨[], slices_ContainsFunc___impl_Prog_impl_Prog__w c_178, none⟩)], [], [], [(0, [1]), (1, [2])], impl_ScriptOk_L A c_177 c_178 A.fuel⟩
theorem impl_ScriptOk_ok (A : PM.Prims) (c_177 : impl_ThingsOk_T) (c_178 : slices_ContainsFunc___impl_Prog_impl_Prog__T) (s_Start_Cells : List Int) (s_Start_Map : List Int) (s_Start_Count : Int) (s_Progs : List (List PM.C)) (s_Acts : List (List Int)) (k : PM.V → PM.R) : PM.pfun A cx [] (impl_ScriptOk_E A c_177 c_178) Go.Proofs.Try.f86 [.agg [.arr (.ints 3 .i64 s_Start_Cells), .arr (.ints 3 .i64 s_Start_Map), .int .i64 s_Start_Count, .arr (.rows 242 s_Progs), .arr (.vecs 320 3 s_Acts)]] k = impl_ScriptOk_f A c_177 c_178 s_Start_Cells s_Start_Map s_Start_Count s_Progs s_Acts (fun r0 => k (.bool r0)) := by kernel_rfl

theorem impl_ScriptOk_fn : PM.FnIs Try.prog 86 Try.f86 := .of Try.func86 (by kernel_rfl) (by kernel_rfl)
theorem impl_ScriptOk_g : PM.GOk Try.prog cx 86 ⟨[], impl_ScriptOk_w (impl_ScriptOk PM.std), none⟩ := by
  refine ⟨impl_ScriptOk_fn.enter, fun _ ds k r h => ?_, fun hm => absurd rfl hm, fun _ e => (by cases e)⟩
  change impl_ScriptOk_w (impl_ScriptOk PM.std) ds k = some r at h
  unfold impl_ScriptOk_w at h
  split at h
  · exact PM.pfun_ok (E := impl_ScriptOk_E PM.std (impl_ThingsOk PM.std) (slices_ContainsFunc___impl_Prog_impl_Prog_ PM.std)) (L := fun n => impl_ScriptOk_L PM.std (impl_ThingsOk PM.std) (slices_ContainsFunc___impl_Prog_impl_Prog_ PM.std) n) (N := PM.std.fuel) cx_ok (.cons impl_ThingsOk_g (.cons slices_ContainsFunc___impl_Prog_impl_Prog__g .nil)) mixed .nil impl_ScriptOk_fn (by kernel_rfl) ⟨rfl, fun _ _ _ => rfl, fun n cur σ K r h => by cases h⟩
      ((impl_ScriptOk_ok PM.std (impl_ThingsOk PM.std) (slices_ContainsFunc___impl_Prog_impl_Prog_ PM.std) _ _ _ _ _ k).trans h)
  · cases h

abbrev laws_eqThings_T := (List Int) → (List Int) → (Int) → (List Int) → (List Int) → (Int) → ((Bool) → PM.R) → PM.R
noncomputable def laws_eqThings_w (c : laws_eqThings_T) (ds : List PM.V) (k : PM.V → PM.R) : PM.R :=
  match ds with
  | [.agg [.arr (.ints 3 .i64 a_Cells), .arr (.ints 3 .i64 a_Map), .int .i64 a_Count], .agg [.arr (.ints 3 .i64 b_Cells), .arr (.ints 3 .i64 b_Map), .int .i64 b_Count]] => c a_Cells a_Map a_Count b_Cells b_Map b_Count (fun r0 => k (.bool r0))
  | _ => none
noncomputable def laws_eqThings_f (A : PM.Prims) (c_40 : laws_eqIntS_T) (a_Cells : List Int) (a_Map : List Int) (a_Count : Int) (b_Cells : List Int) (b_Map : List Int) (b_Count : Int) (k : (Bool) → PM.R) : PM.R :=
  c_40 a_Cells b_Cells (fun r1 =>
    bif (A.not r1) then
      k false
    else
      c_40 a_Map b_Map (fun r2 =>
        bif (A.not r2) then
          k false
        else
          bif (A.not (A.eq a_Count b_Count)) then
            k false
          else
            k true))
noncomputable def laws_eqThings (A : PM.Prims) : laws_eqThings_T := laws_eqThings_f A (laws_eqIntS A)
noncomputable def laws_eqThings_L (A : PM.Prims) (c_40 : laws_eqIntS_T) (n : Nat) : PM.Lam := fun cur σ K =>
  match cur, σ, K with
  | _, _, _ => none
noncomputable def laws_eqThings_E (A : PM.Prims) (c_40 : laws_eqIntS_T) : PM.Env := ⟨[(40, ⟨[], laws_eqIntS_w c_40, none⟩)], [], [], [(0, [2, 3]), (1, [2, 3, 10]), (2, [4]), (3, [2, 3, 16]), (4, [4]), (5, [21]), (6, [4]), (7, [4])], laws_eqThings_L A c_40 A.fuel⟩
theorem laws_eqThings_ok (A : PM.Prims) (c_40 : laws_eqIntS_T) (a_Cells : List Int) (a_Map : List Int) (a_Count : Int) (b_Cells : List Int) (b_Map : List Int) (b_Count : Int) (k : PM.V → PM.R) : PM.pfun A cx [] (laws_eqThings_E A c_40) Go.Proofs.Try.f181 [.agg [.arr (.ints 3 .i64 a_Cells), .arr (.ints 3 .i64 a_Map), .int .i64 a_Count], .agg [.arr (.ints 3 .i64 b_Cells), .arr (.ints 3 .i64 b_Map), .int .i64 b_Count]] k = laws_eqThings_f A c_40 a_Cells a_Map a_Count b_Cells b_Map b_Count (fun r0 => k (.bool r0)) := by kernel_rfl

theorem laws_eqThings_fn : PM.FnIs Try.prog 181 Try.f181 := .of Try.func181 (by kernel_rfl) (by kernel_rfl)
theorem laws_eqThings_g : PM.GOk Try.prog cx 181 ⟨[], laws_eqThings_w (laws_eqThings PM.std), none⟩ := by
  refine ⟨laws_eqThings_fn.enter, fun _ ds k r h => ?_, fun hm => absurd rfl hm, fun _ e => (by cases e)⟩
  change laws_eqThings_w (laws_eqThings PM.std) ds k = some r at h
  unfold laws_eqThings_w at h
  split at h
  · exact PM.pfun_ok (E := laws_eqThings_E PM.std (laws_eqIntS PM.std)) (L := fun n => laws_eqThings_L PM.std (laws_eqIntS PM.std) n) (N := PM.std.fuel) cx_ok (.cons laws_eqIntS_g .nil) mixed .nil laws_eqThings_fn (by kernel_rfl) ⟨rfl, fun _ _ _ => rfl, fun n cur σ K r h => by cases h⟩
      ((laws_eqThings_ok PM.std (laws_eqIntS PM.std) _ _ _ _ _ _ k).trans h)
  · cases h

abbrev laws_eqProg_T := (List (List Int)) → (List (List PM.C)) → (List (List Int)) → (List (List PM.C)) → ((Bool) → PM.R) → PM.R
noncomputable def laws_eqProg_w (c : laws_eqProg_T) (ds : List PM.V) (k : PM.V → PM.R) : PM.R :=
  match ds with
  | [.agg [.arr (.vecs 312 4 a_Code), .arr (.rows 233 a_Kids)], .agg [.arr (.vecs 312 4 b_Code), .arr (.rows 233 b_Kids)]] => c a_Code a_Kids b_Code b_Kids (fun r0 => k (.bool r0))
  | _ => none
noncomputable def laws_eqProg_f (A : PM.Prims) (c_286 : laws_eqOpS_T) (c_167 : laws_eqKidS_T) (a_Code : List (List Int)) (a_Kids : List (List PM.C)) (b_Code : List (List Int)) (b_Kids : List (List PM.C)) (k : (Bool) → PM.R) : PM.R :=
  c_286 a_Code b_Code (fun r1 =>
    bif (A.not r1) then
      k false
    else
      c_167 a_Kids b_Kids (fun r2 =>
        bif (A.not r2) then
          k false
        else
          k true))
noncomputable def laws_eqProg (A : PM.Prims) : laws_eqProg_T := laws_eqProg_f A (laws_eqOpS A) (laws_eqKidS A)
noncomputable def laws_eqProg_L (A : PM.Prims) (c_286 : laws_eqOpS_T) (c_167 : laws_eqKidS_T) (n : Nat) : PM.Lam := fun cur σ K =>
  match cur, σ, K with
  | _, _, _ => none
noncomputable def laws_eqProg_E (A : PM.Prims) (c_286 : laws_eqOpS_T) (c_167 : laws_eqKidS_T) : PM.Env := ⟨[(286, ⟨[], laws_eqOpS_w c_286, none⟩), (167, ⟨[], laws_eqKidS_w c_167, none⟩)], [], [], [(0, [2, 3]), (1, [2, 3, 10]), (2, [4]), (3, [16]), (4, [4]), (5, [4])], laws_eqProg_L A c_286 c_167 A.fuel⟩
theorem laws_eqProg_ok (A : PM.Prims) (c_286 : laws_eqOpS_T) (c_167 : laws_eqKidS_T) (a_Code : List (List Int)) (a_Kids : List (List PM.C)) (b_Code : List (List Int)) (b_Kids : List (List PM.C)) (k : PM.V → PM.R) : PM.pfun A cx [] (laws_eqProg_E A c_286 c_167) Go.Proofs.Try.f236 [.agg [.arr (.vecs 312 4 a_Code), .arr (.rows 233 a_Kids)], .agg [.arr (.vecs 312 4 b_Code), .arr (.rows 233 b_Kids)]] k = laws_eqProg_f A c_286 c_167 a_Code a_Kids b_Code b_Kids (fun r0 => k (.bool r0)) := by kernel_rfl

theorem laws_eqProg_fn : PM.FnIs Try.prog 236 Try.f236 := .of Try.func236 (by kernel_rfl) (by kernel_rfl)
theorem laws_eqProg_g : PM.GOk Try.prog cx 236 ⟨[], laws_eqProg_w (laws_eqProg PM.std), none⟩ := by
  refine ⟨laws_eqProg_fn.enter, fun _ ds k r h => ?_, fun hm => absurd rfl hm, fun _ e => (by cases e)⟩
  change laws_eqProg_w (laws_eqProg PM.std) ds k = some r at h
  unfold laws_eqProg_w at h
  split at h
  · exact PM.pfun_ok (E := laws_eqProg_E PM.std (laws_eqOpS PM.std) (laws_eqKidS PM.std)) (L := fun n => laws_eqProg_L PM.std (laws_eqOpS PM.std) (laws_eqKidS PM.std) n) (N := PM.std.fuel) cx_ok (.cons laws_eqOpS_g (.cons laws_eqKidS_g .nil)) mixed .nil laws_eqProg_fn (by kernel_rfl) ⟨rfl, fun _ _ _ => rfl, fun n cur σ K r h => by cases h⟩
      ((laws_eqProg_ok PM.std (laws_eqOpS PM.std) (laws_eqKidS PM.std) _ _ _ _ k).trans h)
  · cases h

abbrev laws_eqProgS_T := (List (List PM.C)) → (List (List PM.C)) → ((Bool) → PM.R) → PM.R
noncomputable def laws_eqProgS_w (c : laws_eqProgS_T) (ds : List PM.V) (k : PM.V → PM.R) : PM.R :=
  match ds with
  | [.arr (.rows 242 a), .arr (.rows 242 b)] => c a b (fun r0 => k (.bool r0))
  | _ => none
noncomputable def laws_eqProgS_l0 (A : PM.Prims) (c_236 : laws_eqProg_T) : Nat → (List (List C)) → (List (List C)) → (Int) → ((Bool) → PM.R) → (Unit → PM.R) → PM.R
  | 0, _, _, _, _, _ => none
  | n + 1, a1, b2, i3, kret_0, kx0_0 =>
    bif (A.lt i3 (A.rlen a1)) then
      bif (A.inb i3 (A.rlen a1)) then
        bif (A.inb i3 (A.rlen b2)) then
          c_236 (A.rsv 4 a1 i3 0) (A.rsr a1 i3 1) (A.rsv 4 b2 i3 0) (A.rsr b2 i3 1) (fun r4 =>
            bif (A.not r4) then
              kret_0 false
            else
              laws_eqProgS_l0 A c_236 n a1 b2 (A.add .i64 i3 1) kret_0 kx0_0)
        else
          none
      else
        none
    else
      kx0_0 ()
noncomputable def laws_eqProgS_f (A : PM.Prims) (c_236 : laws_eqProg_T) (a : List (List PM.C)) (b : List (List PM.C)) (k : (Bool) → PM.R) : PM.R :=
  bif (A.not (A.eq (A.rlen a) (A.rlen b))) then
    k false
  else
    laws_eqProgS_l0 A c_236 A.fuel a b 0 (fun t456 =>
      k t456) (fun _ =>
      k true)
noncomputable def laws_eqProgS (A : PM.Prims) : laws_eqProgS_T := laws_eqProgS_f A (laws_eqProg A)
noncomputable def laws_eqProgS_L (A : PM.Prims) (c_236 : laws_eqProg_T) (n : Nat) : PM.Lam := fun cur σ K =>
  match cur, σ, K with
  | 0, ⟨[(0, .arr (.rows 242 a1)), (1, .arr (.rows 242 b2)), (5, .int .i64 i3)], []⟩, K => laws_eqProgS_l0 A c_236 n a1 b2 i3 (fun t45 => K .ret ⟨[(4, .bool t45)], []⟩) (fun _ => K (.exit 0) ⟨[], []⟩)
  | _, _, _ => none
noncomputable def laws_eqProgS_E (A : PM.Prims) (c_236 : laws_eqProg_T) : PM.Env := ⟨[(236, ⟨[], laws_eqProg_w c_236, none⟩)], [], [(0, [0, 1, 5], [4])], [(0, [0, 1]), (1, [0, 1, 10]), (2, [4]), (3, [0, 1, 5]), (4, [0, 1, 5, 14]), (5, [0, 1, 5]), (6, [0, 1, 5, 26]), (7, [4]), (8, [4])], laws_eqProgS_L A c_236 A.fuel⟩
theorem laws_eqProgS_l0_ok (A : PM.Prims) (c_236 : laws_eqProg_T) (n : Nat) (a1 : List (List C)) (b2 : List (List C)) (i3 : Int) (K : Go.Exit → PM.S → PM.R) : laws_eqProgS_L A c_236 (n + 1) 0 ⟨[(0, .arr (.rows 242 a1)), (1, .arr (.rows 242 b2)), (5, .int .i64 i3)], []⟩ K = PM.roundF A cx (PM.runD A cx (laws_eqProgS_E A c_236).inl (laws_eqProgS_E A c_236).Γ 3) (laws_eqProgS_E A c_236) (laws_eqProgS_L A c_236 n) 0 Go.Proofs.Try.f182 ⟨[(0, .arr (.rows 242 a1)), (1, .arr (.rows 242 b2)), (5, .int .i64 i3)], []⟩ K := by kernel_rfl
theorem laws_eqProgS_ok (A : PM.Prims) (c_236 : laws_eqProg_T) (a : List (List PM.C)) (b : List (List PM.C)) (k : PM.V → PM.R) : PM.pfun A cx [] (laws_eqProgS_E A c_236) Go.Proofs.Try.f182 [.arr (.rows 242 a), .arr (.rows 242 b)] k = laws_eqProgS_f A c_236 a b (fun r0 => k (.bool r0)) := by kernel_rfl

theorem laws_eqProgS_fn : PM.FnIs Try.prog 182 Try.f182 := .of Try.func182 (by kernel_rfl) (by kernel_rfl)
theorem laws_eqProgS_g : PM.GOk Try.prog cx 182 ⟨[], laws_eqProgS_w (laws_eqProgS PM.std), none⟩ := by
  refine ⟨laws_eqProgS_fn.enter, fun _ ds k r h => ?_, fun hm => absurd rfl hm, fun _ e => (by cases e)⟩
  change laws_eqProgS_w (laws_eqProgS PM.std) ds k = some r at h
  unfold laws_eqProgS_w at h
  split at h
  · exact PM.pfun_ok (E := laws_eqProgS_E PM.std (laws_eqProg PM.std)) (L := fun n => laws_eqProgS_L PM.std (laws_eqProg PM.std) n) (N := PM.std.fuel) cx_ok (.cons laws_eqProg_g .nil) mixed .nil laws_eqProgS_fn (by kernel_rfl) ⟨rfl, fun cur σ K => by
      dsimp only [laws_eqProgS_L]
      split <;> rfl, fun n cur σ K r h => by
      dsimp only [laws_eqProgS_L] at h
      split at h
      · exact (laws_eqProgS_l0_ok PM.std (laws_eqProg PM.std) n _ _ _ K).symm.trans h
      · cases h⟩
      ((laws_eqProgS_ok PM.std (laws_eqProg PM.std) _ _ k).trans h)
  · cases h

abbrev laws_eqAct_T := (Int) → (Int) → (Int) → (Int) → (Int) → (Int) → ((Bool) → PM.R) → PM.R
noncomputable def laws_eqAct_w (c : laws_eqAct_T) (ds : List PM.V) (k : PM.V → PM.R) : PM.R :=
  match ds with
  | [.agg [.int .i64 a_Kind, .int .i64 a_Root, .int .i64 a_Kid], .agg [.int .i64 b_Kind, .int .i64 b_Root, .int .i64 b_Kid]] => c a_Kind a_Root a_Kid b_Kind b_Root b_Kid (fun r0 => k (.bool r0))
  | _ => none
noncomputable def laws_eqAct_f (A : PM.Prims) (a_Kind : Int) (a_Root : Int) (a_Kid : Int) (b_Kind : Int) (b_Root : Int) (b_Kid : Int) (k : (Bool) → PM.R) : PM.R :=
  bif (A.not (A.eq a_Kind b_Kind)) then
    k false
  else
    bif (A.not (A.eq a_Root b_Root)) then
      k false
    else
      bif (A.not (A.eq a_Kid b_Kid)) then
        k false
      else
        k true
noncomputable def laws_eqAct (A : PM.Prims) : laws_eqAct_T := laws_eqAct_f A
noncomputable def laws_eqAct_L (A : PM.Prims) (n : Nat) : PM.Lam := fun cur σ K =>
  match cur, σ, K with
  | _, _, _ => none
noncomputable def laws_eqAct_E (A : PM.Prims) : PM.Env := ⟨[], [], [], [(0, [2, 3]), (1, [2, 3, 9]), (2, [4]), (3, [2, 3, 14]), (4, [4]), (5, [19]), (6, [4]), (7, [4])], laws_eqAct_L A A.fuel⟩
theorem laws_eqAct_ok (A : PM.Prims) (a_Kind : Int) (a_Root : Int) (a_Kid : Int) (b_Kind : Int) (b_Root : Int) (b_Kid : Int) (k : PM.V → PM.R) : PM.pfun A cx [] (laws_eqAct_E A) Go.Proofs.Try.f237 [.agg [.int .i64 a_Kind, .int .i64 a_Root, .int .i64 a_Kid], .agg [.int .i64 b_Kind, .int .i64 b_Root, .int .i64 b_Kid]] k = laws_eqAct_f A a_Kind a_Root a_Kid b_Kind b_Root b_Kid (fun r0 => k (.bool r0)) := by kernel_rfl

theorem laws_eqAct_fn : PM.FnIs Try.prog 237 Try.f237 := .of Try.func237 (by kernel_rfl) (by kernel_rfl)
theorem laws_eqAct_g : PM.GOk Try.prog cx 237 ⟨[], laws_eqAct_w (laws_eqAct PM.std), none⟩ := by
  refine ⟨laws_eqAct_fn.enter, fun _ ds k r h => ?_, fun hm => absurd rfl hm, fun _ e => (by cases e)⟩
  change laws_eqAct_w (laws_eqAct PM.std) ds k = some r at h
  unfold laws_eqAct_w at h
  split at h
  · exact PM.pfun_ok (E := laws_eqAct_E PM.std) (L := fun n => laws_eqAct_L PM.std n) (N := PM.std.fuel) cx_ok .nil mixed .nil laws_eqAct_fn (by kernel_rfl) ⟨rfl, fun _ _ _ => rfl, fun n cur σ K r h => by cases h⟩
      ((laws_eqAct_ok PM.std _ _ _ _ _ _ k).trans h)
  · cases h

abbrev laws_eqActS_T := (List (List Int)) → (List (List Int)) → ((Bool) → PM.R) → PM.R
noncomputable def laws_eqActS_w (c : laws_eqActS_T) (ds : List PM.V) (k : PM.V → PM.R) : PM.R :=
  match ds with
  | [.arr (.vecs 320 3 a), .arr (.vecs 320 3 b)] => c a b (fun r0 => k (.bool r0))
  | _ => none
noncomputable def laws_eqActS_l0 (A : PM.Prims) (c_237 : laws_eqAct_T) : Nat → (List (List Int)) → (List (List Int)) → (Int) → ((Bool) → PM.R) → (Unit → PM.R) → PM.R
  | 0, _, _, _, _, _ => none
  | n + 1, a1, b2, i3, kret_0, kx0_0 =>
    bif (A.lt i3 (A.vlen a1)) then
      bif (A.inb i3 (A.vlen a1)) then
        bif (A.inb i3 (A.vlen b2)) then
          c_237 (A.vget a1 i3 0) (A.vget a1 i3 1) (A.vget a1 i3 2) (A.vget b2 i3 0) (A.vget b2 i3 1) (A.vget b2 i3 2) (fun r4 =>
            bif (A.not r4) then
              kret_0 false
            else
              laws_eqActS_l0 A c_237 n a1 b2 (A.add .i64 i3 1) kret_0 kx0_0)
        else
          none
      else
        none
    else
      kx0_0 ()
noncomputable def laws_eqActS_f (A : PM.Prims) (c_237 : laws_eqAct_T) (a : List (List Int)) (b : List (List Int)) (k : (Bool) → PM.R) : PM.R :=
  bif (A.not (A.eq (A.vlen a) (A.vlen b))) then
    k false
  else
    laws_eqActS_l0 A c_237 A.fuel a b 0 (fun t456 =>
      k t456) (fun _ =>
      k true)
noncomputable def laws_eqActS (A : PM.Prims) : laws_eqActS_T := laws_eqActS_f A (laws_eqAct A)
noncomputable def laws_eqActS_L (A : PM.Prims) (c_237 : laws_eqAct_T) (n : Nat) : PM.Lam := fun cur σ K =>
  match cur, σ, K with
  | 0, ⟨[(0, .arr (.vecs 320 3 a1)), (1, .arr (.vecs 320 3 b2)), (5, .int .i64 i3)], []⟩, K => laws_eqActS_l0 A c_237 n a1 b2 i3 (fun t45 => K .ret ⟨[(4, .bool t45)], []⟩) (fun _ => K (.exit 0) ⟨[], []⟩)
  | _, _, _ => none
noncomputable def laws_eqActS_E (A : PM.Prims) (c_237 : laws_eqAct_T) : PM.Env := ⟨[(237, ⟨[], laws_eqAct_w c_237, none⟩)], [], [(0, [0, 1, 5], [4])], [(0, [0, 1]), (1, [0, 1, 10]), (2, [4]), (3, [0, 1, 5]), (4, [0, 1, 5, 14]), (5, [0, 1, 5]), (6, [0, 1, 5, 26]), (7, [4]), (8, [4])], laws_eqActS_L A c_237 A.fuel⟩
theorem laws_eqActS_l0_ok (A : PM.Prims) (c_237 : laws_eqAct_T) (n : Nat) (a1 : List (List Int)) (b2 : List (List Int)) (i3 : Int) (K : Go.Exit → PM.S → PM.R) : laws_eqActS_L A c_237 (n + 1) 0 ⟨[(0, .arr (.vecs 320 3 a1)), (1, .arr (.vecs 320 3 b2)), (5, .int .i64 i3)], []⟩ K = PM.roundF A cx (PM.runD A cx (laws_eqActS_E A c_237).inl (laws_eqActS_E A c_237).Γ 3) (laws_eqActS_E A c_237) (laws_eqActS_L A c_237 n) 0 Go.Proofs.Try.f183 ⟨[(0, .arr (.vecs 320 3 a1)), (1, .arr (.vecs 320 3 b2)), (5, .int .i64 i3)], []⟩ K := by kernel_rfl
theorem laws_eqActS_ok (A : PM.Prims) (c_237 : laws_eqAct_T) (a : List (List Int)) (b : List (List Int)) (k : PM.V → PM.R) : PM.pfun A cx [] (laws_eqActS_E A c_237) Go.Proofs.Try.f183 [.arr (.vecs 320 3 a), .arr (.vecs 320 3 b)] k = laws_eqActS_f A c_237 a b (fun r0 => k (.bool r0)) := by kernel_rfl

theorem laws_eqActS_fn : PM.FnIs Try.prog 183 Try.f183 := .of Try.func183 (by kernel_rfl) (by kernel_rfl)
theorem laws_eqActS_g : PM.GOk Try.prog cx 183 ⟨[], laws_eqActS_w (laws_eqActS PM.std), none⟩ := by
  refine ⟨laws_eqActS_fn.enter, fun _ ds k r h => ?_, fun hm => absurd rfl hm, fun _ e => (by cases e)⟩
  change laws_eqActS_w (laws_eqActS PM.std) ds k = some r at h
  unfold laws_eqActS_w at h
  split at h
  · exact PM.pfun_ok (E := laws_eqActS_E PM.std (laws_eqAct PM.std)) (L := fun n => laws_eqActS_L PM.std (laws_eqAct PM.std) n) (N := PM.std.fuel) cx_ok (.cons laws_eqAct_g .nil) mixed .nil laws_eqActS_fn (by kernel_rfl) ⟨rfl, fun cur σ K => by
      dsimp only [laws_eqActS_L]
      split <;> rfl, fun n cur σ K r h => by
      dsimp only [laws_eqActS_L] at h
      split at h
      · exact (laws_eqActS_l0_ok PM.std (laws_eqAct PM.std) n _ _ _ K).symm.trans h
      · cases h⟩
      ((laws_eqActS_ok PM.std (laws_eqAct PM.std) _ _ k).trans h)
  · cases h

abbrev laws_eqScript_T := (List Int) → (List Int) → (Int) → (List (List PM.C)) → (List (List Int)) → (List Int) → (List Int) → (Int) → (List (List PM.C)) → (List (List Int)) → ((Bool) → PM.R) → PM.R
noncomputable def laws_eqScript_w (c : laws_eqScript_T) (ds : List PM.V) (k : PM.V → PM.R) : PM.R :=
  match ds with
  | [.agg [.arr (.ints 3 .i64 a_Start_Cells), .arr (.ints 3 .i64 a_Start_Map), .int .i64 a_Start_Count, .arr (.rows 242 a_Progs), .arr (.vecs 320 3 a_Acts)], .agg [.arr (.ints 3 .i64 b_Start_Cells), .arr (.ints 3 .i64 b_Start_Map), .int .i64 b_Start_Count, .arr (.rows 242 b_Progs), .arr (.vecs 320 3 b_Acts)]] => c a_Start_Cells a_Start_Map a_Start_Count a_Progs a_Acts b_Start_Cells b_Start_Map b_Start_Count b_Progs b_Acts (fun r0 => k (.bool r0))
  | _ => none
noncomputable def laws_eqScript_f (A : PM.Prims) (c_181 : laws_eqThings_T) (c_182 : laws_eqProgS_T) (c_183 : laws_eqActS_T) (a_Start_Cells : List Int) (a_Start_Map : List Int) (a_Start_Count : Int) (a_Progs : List (List PM.C)) (a_Acts : List (List Int)) (b_Start_Cells : List Int) (b_Start_Map : List Int) (b_Start_Count : Int) (b_Progs : List (List PM.C)) (b_Acts : List (List Int)) (k : (Bool) → PM.R) : PM.R :=
  c_181 a_Start_Cells a_Start_Map a_Start_Count b_Start_Cells b_Start_Map b_Start_Count (fun r1 =>
    bif (A.not r1) then
      k false
    else
      c_182 a_Progs b_Progs (fun r2 =>
        bif (A.not r2) then
          k false
        else
          c_183 a_Acts b_Acts (fun r3 =>
            bif (A.not r3) then
              k false
            else
              k true)))
noncomputable def laws_eqScript (A : PM.Prims) : laws_eqScript_T := laws_eqScript_f A (laws_eqThings A) (laws_eqProgS A) (laws_eqActS A)
noncomputable def laws_eqScript_L (A : PM.Prims) (c_181 : laws_eqThings_T) (c_182 : laws_eqProgS_T) (c_183 : laws_eqActS_T) (n : Nat) : PM.Lam := fun cur σ K =>
  match cur, σ, K with
  | _, _, _ => none
noncomputable def laws_eqScript_E (A : PM.Prims) (c_181 : laws_eqThings_T) (c_182 : laws_eqProgS_T) (c_183 : laws_eqActS_T) : PM.Env := ⟨[(181, ⟨[], laws_eqThings_w c_181, none⟩), (182, ⟨[], laws_eqProgS_w c_182, none⟩), (183, ⟨[], laws_eqActS_w c_183, none⟩)], [], [], [(0, [2, 3]), (1, [2, 3, 10]), (2, [4]), (3, [2, 3, 16]), (4, [4]), (5, [22]), (6, [4]), (7, [4])], laws_eqScript_L A c_181 c_182 c_183 A.fuel⟩
theorem laws_eqScript_ok (A : PM.Prims) (c_181 : laws_eqThings_T) (c_182 : laws_eqProgS_T) (c_183 : laws_eqActS_T) (a_Start_Cells : List Int) (a_Start_Map : List Int) (a_Start_Count : Int) (a_Progs : List (List PM.C)) (a_Acts : List (List Int)) (b_Start_Cells : List Int) (b_Start_Map : List Int) (b_Start_Count : Int) (b_Progs : List (List PM.C)) (b_Acts : List (List Int)) (k : PM.V → PM.R) : PM.pfun A cx [] (laws_eqScript_E A c_181 c_182 c_183) Go.Proofs.Try.f87 [.agg [.arr (.ints 3 .i64 a_Start_Cells), .arr (.ints 3 .i64 a_Start_Map), .int .i64 a_Start_Count, .arr (.rows 242 a_Progs), .arr (.vecs 320 3 a_Acts)], .agg [.arr (.ints 3 .i64 b_Start_Cells), .arr (.ints 3 .i64 b_Start_Map), .int .i64 b_Start_Count, .arr (.rows 242 b_Progs), .arr (.vecs 320 3 b_Acts)]] k = laws_eqScript_f A c_181 c_182 c_183 a_Start_Cells a_Start_Map a_Start_Count a_Progs a_Acts b_Start_Cells b_Start_Map b_Start_Count b_Progs b_Acts (fun r0 => k (.bool r0)) := by kernel_rfl

theorem laws_eqScript_fn : PM.FnIs Try.prog 87 Try.f87 := .of Try.func87 (by kernel_rfl) (by kernel_rfl)
theorem laws_eqScript_g : PM.GOk Try.prog cx 87 ⟨[], laws_eqScript_w (laws_eqScript PM.std), none⟩ := by
  refine ⟨laws_eqScript_fn.enter, fun _ ds k r h => ?_, fun hm => absurd rfl hm, fun _ e => (by cases e)⟩
  change laws_eqScript_w (laws_eqScript PM.std) ds k = some r at h
  unfold laws_eqScript_w at h
  split at h
  · exact PM.pfun_ok (E := laws_eqScript_E PM.std (laws_eqThings PM.std) (laws_eqProgS PM.std) (laws_eqActS PM.std)) (L := fun n => laws_eqScript_L PM.std (laws_eqThings PM.std) (laws_eqProgS PM.std) (laws_eqActS PM.std) n) (N := PM.std.fuel) cx_ok (.cons laws_eqThings_g (.cons laws_eqProgS_g (.cons laws_eqActS_g .nil))) mixed .nil laws_eqScript_fn (by kernel_rfl) ⟨rfl, fun _ _ _ => rfl, fun n cur σ K r h => by cases h⟩
      ((laws_eqScript_ok PM.std (laws_eqThings PM.std) (laws_eqProgS PM.std) (laws_eqActS PM.std) _ _ _ _ _ _ _ _ _ _ k).trans h)
  · cases h

abbrev laws_FnExactScriptOk_T := (List Int) → (List Int) → (Int) → (List (List PM.C)) → (List (List Int)) → ((Bool) → PM.R) → PM.R
noncomputable def laws_FnExactScriptOk_w (c : laws_FnExactScriptOk_T) (ds : List PM.V) (k : PM.V → PM.R) : PM.R :=
  match ds with
  | [.agg [.arr (.ints 3 .i64 aS_Start_Cells), .arr (.ints 3 .i64 aS_Start_Map), .int .i64 aS_Start_Count, .arr (.rows 317 aS_Progs), .arr (.vecs 322 3 aS_Acts)]] => c aS_Start_Cells aS_Start_Map aS_Start_Count aS_Progs aS_Acts (fun r0 => k (.bool r0))
  | _ => none
noncomputable def laws_FnExactScriptOk_f (A : PM.Prims) (c_83 : laws_szScript_T) (c_85 : laws_toScript_T) (c_84 : spec_ScriptOk_T) (c_86 : impl_ScriptOk_T) (c_87 : laws_eqScript_T) (aS_Start_Cells : List Int) (aS_Start_Map : List Int) (aS_Start_Count : Int) (aS_Progs : List (List PM.C)) (aS_Acts : List (List Int)) (k : (Bool) → PM.R) : PM.R :=
  c_83 aS_Start_Cells aS_Start_Map aS_Start_Count aS_Progs aS_Acts 1048576 (fun r1 =>
    bif (A.lt r1 0) then
      k true
    else
      c_85 aS_Start_Cells aS_Start_Map aS_Start_Count aS_Progs aS_Acts (fun r2 r3 r4 r5 r6 =>
        c_84 r2 r3 r4 r5 r6 (fun r7 =>
          c_85 aS_Start_Cells aS_Start_Map aS_Start_Count aS_Progs aS_Acts (fun r8 r9 r10 r11 r12 =>
            c_86 r8 r9 r10 r11 r12 (fun r13 =>
              bif (A.not (A.beq r13 r7)) then
                k false
              else
                c_85 aS_Start_Cells aS_Start_Map aS_Start_Count aS_Progs aS_Acts (fun r14 r15 r16 r17 r18 =>
                  c_87 r8 r9 r10 r11 r12 r14 r15 r16 r17 r18 (fun r19 =>
                    bif (A.not r19) then
                      k false
                    else
                      k true)))))))
noncomputable def laws_FnExactScriptOk (A : PM.Prims) : laws_FnExactScriptOk_T := laws_FnExactScriptOk_f A (laws_szScript A) (laws_toScript A) (spec_ScriptOk A) (impl_ScriptOk A) (laws_eqScript A)
noncomputable def laws_FnExactScriptOk_L (A : PM.Prims) (c_83 : laws_szScript_T) (c_85 : laws_toScript_T) (c_84 : spec_ScriptOk_T) (c_86 : impl_ScriptOk_T) (c_87 : laws_eqScript_T) (n : Nat) : PM.Lam := fun cur σ K =>
  match cur, σ, K with
  | _, _, _ => none
noncomputable def laws_FnExactScriptOk_E (A : PM.Prims) (c_83 : laws_szScript_T) (c_85 : laws_toScript_T) (c_84 : spec_ScriptOk_T) (c_86 : impl_ScriptOk_T) (c_87 : laws_eqScript_T) : PM.Env := ⟨[(83, ⟨[], laws_szScript_w c_83, none⟩), (85, ⟨[], laws_toScript_w c_85, none⟩), (84, ⟨[], spec_ScriptOk_w c_84, none⟩), (86, ⟨[], impl_ScriptOk_w c_86, none⟩), (87, ⟨[], laws_eqScript_w c_87, none⟩)], [], [], [(0, [1]), (1, [1, 3]), (2, [1, 3]), (3, [1, 11]), (4, [2]), (5, [1, 4]), (6, [1, 4, 5]), (7, [1, 4, 5, 6]), (8, [1, 5, 21]), (9, [2]), (10, [26]), (11, [2]), (12, [2])], laws_FnExactScriptOk_L A c_83 c_85 c_84 c_86 c_87 A.fuel⟩
theorem laws_FnExactScriptOk_ok (A : PM.Prims) (c_83 : laws_szScript_T) (c_85 : laws_toScript_T) (c_84 : spec_ScriptOk_T) (c_86 : impl_ScriptOk_T) (c_87 : laws_eqScript_T) (aS_Start_Cells : List Int) (aS_Start_Map : List Int) (aS_Start_Count : Int) (aS_Progs : List (List PM.C)) (aS_Acts : List (List Int)) (k : PM.V → PM.R) : PM.pfun A cx [] (laws_FnExactScriptOk_E A c_83 c_85 c_84 c_86 c_87) Go.Proofs.Try.f18 [.agg [.arr (.ints 3 .i64 aS_Start_Cells), .arr (.ints 3 .i64 aS_Start_Map), .int .i64 aS_Start_Count, .arr (.rows 317 aS_Progs), .arr (.vecs 322 3 aS_Acts)]] k = laws_FnExactScriptOk_f A c_83 c_85 c_84 c_86 c_87 aS_Start_Cells aS_Start_Map aS_Start_Count aS_Progs aS_Acts (fun r0 => k (.bool r0)) := by kernel_rfl

theorem laws_FnExactScriptOk_fn : PM.FnIs Try.prog 18 Try.f18 := .of Try.func18 (by kernel_rfl) (by kernel_rfl)
theorem laws_FnExactScriptOk_g : PM.GOk Try.prog cx 18 ⟨[], laws_FnExactScriptOk_w (laws_FnExactScriptOk PM.std), none⟩ := by
  refine ⟨laws_FnExactScriptOk_fn.enter, fun _ ds k r h => ?_, fun hm => absurd rfl hm, fun _ e => (by cases e)⟩
  change laws_FnExactScriptOk_w (laws_FnExactScriptOk PM.std) ds k = some r at h
  unfold laws_FnExactScriptOk_w at h
  split at h
  · exact PM.pfun_ok (E := laws_FnExactScriptOk_E PM.std (laws_szScript PM.std) (laws_toScript PM.std) (spec_ScriptOk PM.std) (impl_ScriptOk PM.std) (laws_eqScript PM.std)) (L := fun n => laws_FnExactScriptOk_L PM.std (laws_szScript PM.std) (laws_toScript PM.std) (spec_ScriptOk PM.std) (impl_ScriptOk PM.std) (laws_eqScript PM.std) n) (N := PM.std.fuel) cx_ok (.cons laws_szScript_g (.cons laws_toScript_g (.cons spec_ScriptOk_g (.cons impl_ScriptOk_g (.cons laws_eqScript_g .nil))))) mixed .nil laws_FnExactScriptOk_fn (by kernel_rfl) ⟨rfl, fun _ _ _ => rfl, fun n cur σ K r h => by cases h⟩
      ((laws_FnExactScriptOk_ok PM.std (laws_szScript PM.std) (laws_toScript PM.std) (spec_ScriptOk PM.std) (impl_ScriptOk PM.std) (laws_eqScript PM.std) _ _ _ _ _ k).trans h)
  · cases h

end X
